/-
  Plain facts on runes.
-/
import Derived.Test.YtpmelloanohlkaaLib
import Derived.Lib.OthersKept
namespace Go.Proofs.Ytpmelloanohlkaa
open Go.RowKit

namespace Cl
def letter (r : Int) : Bool := decide ((97 ≤ r ∧ r ≤ 122) ∨ (65 ≤ r ∧ r ≤ 90) ∨ (191 < r ∧ r ≠ 65533))
def later (r : Int) : Bool := letter r || decide (48 ≤ r ∧ r ≤ 57) || decide (r = 45)

/-- The runes from a place on: place and rune. -/
def runesFrom (s : ByteArray) : Nat → Nat → List (Nat × Nat)
  | 0, _ => []
  | f + 1, pos => if pos < s.size then (pos, (Utf8.decode s pos).1) :: runesFrom s f (pos + (Utf8.decode s pos).2) else []
def runes (s : ByteArray) : List (Nat × Nat) := runesFrom s s.size 0

theorem runesFrom_end (s : ByteArray) (f pos : Nat) (h : ¬ pos < s.size) : runesFrom s f pos = [] := by
  cases f with
  | zero => rfl
  | succ f => simp [runesFrom, h]

theorem runesFrom_step (s : ByteArray) (f pos : Nat) (h : pos < s.size) : runesFrom s (f + 1) pos = (pos, (Utf8.decode s pos).1) :: runesFrom s f (pos + (Utf8.decode s pos).2) := by
  simp [runesFrom, h]

theorem width_pos (s : ByteArray) (pos : Nat) (h : pos < s.size) : 1 ≤ (Utf8.decode s pos).2 := by
  by_cases ha : (s[pos]'h).toNat < 128
  · rw [decode_ascii s pos h ha]
    exact Nat.le_refl _
  · exact (decode_high s pos h (by omega)).2

theorem runesFrom_length (s : ByteArray) (f pos : Nat) : (runesFrom s f pos).length ≤ f := by
  induction f generalizing pos with
  | zero => simp [runesFrom]
  | succ f ih =>
    simp only [runesFrom]
    split
    · have := ih (pos + (Utf8.decode s pos).2)
      simp; omega
    · simp

theorem runes_length (s : ByteArray) : (runes s).length ≤ s.size := runesFrom_length s _ _

/-- Between two rounds: what has come, and what comes yet. -/
def At (s : ByteArray) (pre : List (Nat × Nat)) (pos : Nat) : Prop := ∃ f, s.size ≤ pos + f ∧ pre ++ runesFrom s f pos = runes s

theorem At.start (s : ByteArray) : At s [] 0 := ⟨s.size, by omega, rfl⟩
theorem At.next {s : ByteArray} {pre : List (Nat × Nat)} {pos : Nat} (h : At s pre pos) (hp : pos < s.size) : At s (pre ++ [(pos, (Utf8.decode s pos).1)]) (pos + (Utf8.decode s pos).2) := by
  obtain ⟨f, h1, h2⟩ := h
  have hw := width_pos s pos hp
  obtain ⟨g, rfl⟩ : ∃ g, f = g + 1 := ⟨f - 1, by omega⟩
  refine ⟨g, by omega, ?_⟩
  rw [runesFrom_step s g pos hp] at h2
  rw [← h2]; simp
theorem At.done {s : ByteArray} {pre : List (Nat × Nat)} {pos : Nat} (h : At s pre pos) (hp : ¬ pos < s.size) : pre = runes s := by
  obtain ⟨f, _, h2⟩ := h
  rw [runesFrom_end s f pos hp, List.append_nil] at h2
  exact h2
theorem At.here {s : ByteArray} {pre : List (Nat × Nat)} {pos : Nat} (h : At s pre pos) (hp : pos < s.size) : ∃ rest, runes s = pre ++ (pos, (Utf8.decode s pos).1) :: rest := by
  obtain ⟨f, h1, h2⟩ := h
  obtain ⟨g, rfl⟩ : ∃ g, f = g + 1 := ⟨f - 1, by omega⟩
  rw [runesFrom_step s g pos hp] at h2
  exact ⟨_, h2.symm⟩
theorem At.len {s : ByteArray} {pre : List (Nat × Nat)} {pos : Nat} (h : At s pre pos) : pre.length ≤ s.size := by
  obtain ⟨f, _, h2⟩ := h
  have := runes_length s
  rw [← h2, List.length_append] at this
  omega

/-- A name. -/
def name (s : ByteArray) : Bool := decide (0 < (runes s).length) && decide ((runes s).length ≤ 24) && (match runes s with | [] => false | x :: _ => letter x.2) && (runes s).all (fun x => later x.2)

/-- As long as all is well. -/
def goes (pre : List (Nat × Nat)) : Bool := (match pre with | [] => true | x :: _ => letter x.2) && pre.all (fun x => later x.2)
theorem goes_snoc (pre : List (Nat × Nat)) (x : Nat × Nat) : goes (pre ++ [x]) = (goes pre && (if pre.length = 0 then letter x.2 else true) && later x.2) := by
  cases pre with
  | nil => simp [goes]
  | cons y ys => simp [goes, Bool.and_assoc]
theorem goes_bad (pre rest : List (Nat × Nat)) (h : goes pre = false) : goes (pre ++ rest) = false := by
  cases pre with
  | nil => simp [goes] at h
  | cons y ys =>
    show (letter y.2 && ((y :: ys) ++ rest).all (fun x => later x.2)) = false
    rw [List.all_append, ← Bool.and_assoc, show (letter y.2 && (y :: ys).all (fun x => later x.2)) = false from h]; rfl
theorem name_eq (s : ByteArray) : name s = (goes (runes s) && decide (0 < (runes s).length ∧ (runes s).length ≤ 24)) := by
  unfold name goes
  cases runes s with
  | nil => simp
  | cons x xs =>
    simp only [List.length_cons, Nat.zero_lt_succ, decide_true, Bool.true_and, true_and]
    rw [Bool.and_assoc, Bool.and_comm]
end Cl

end Go.Proofs.Ytpmelloanohlkaa
