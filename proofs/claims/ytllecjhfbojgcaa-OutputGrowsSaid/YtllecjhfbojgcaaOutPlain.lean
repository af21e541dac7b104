/-
  The output, plainly: what each call answers, and what it leaves.
-/
import Derived.Test.YtllecjhfbojgcaaTwoP
namespace Go.Proofs.Ytllecjhfbojgcaa
open Go.RowKit
set_option maxRecDepth 20000

structure OutX where
  key : Int
  val : Int
structure ORec where
  kind : UInt8
  n : Int
  l : List OutX
def flatO (l : List OutX) : List Int := l.flatMap fun x => [x.key, x.val]
def entO (r : ORec) : Lg.Rec := ⟨r.kind, ⟨(Cl.put (r.n :: flatO r.l)).toArray⟩⟩
theorem flatO_len (l : List OutX) : (flatO l).length = l.length * 2 := by
  induction l with
  | nil => rfl
  | cons x l ih => rw [List.length_cons, Nat.add_mul, ← ih]; simp [flatO]
theorem flatO_app (a b : List OutX) : flatO (a ++ b) = flatO a ++ flatO b := by simp [flatO]
theorem flatO_at (l : List OutX) : ∀ (k : Nat) (x : OutX), l[k]? = some x → (flatO l)[k * 2]? = some x.key ∧ (flatO l)[k * 2 + 1]? = some x.val := by
  induction l with
  | nil => intro k x h; simp at h
  | cons y l ih =>
    intro k x h
    cases k with
    | zero =>
      simp only [List.getElem?_cons_zero, Option.some.injEq] at h
      subst h
      exact ⟨rfl, rfl⟩
    | succ k =>
      obtain ⟨h1, h2⟩ := ih k x (by simpa using h)
      rw [show (k + 1) * 2 = k * 2 + 1 + 1 by omega]
      exact ⟨h1, h2⟩
theorem flatO_take (l : List OutX) : ∀ k, flatO (l.take k) = (flatO l).take (k * 2) := by
  induction l with
  | nil => intro k; simp [flatO]
  | cons x l ih =>
    intro k
    cases k with
    | zero => simp [flatO]
    | succ k =>
      rw [show (k + 1) * 2 = k * 2 + 1 + 1 by omega, List.take_succ_cons]
      have := ih k
      simp only [flatO, List.flatMap_cons] at this ⊢
      rw [this]
      rfl
theorem flatO_drop (l : List OutX) : ∀ k, flatO (l.drop k) = (flatO l).drop (k * 2) := by
  induction l with
  | nil => intro k; simp [flatO]
  | cons x l ih =>
    intro k
    cases k with
    | zero => simp
    | succ k =>
      rw [show (k + 1) * 2 = k * 2 + 1 + 1 by omega, List.drop_succ_cons]
      have := ih k
      simp only [flatO, List.flatMap_cons] at this ⊢
      rw [this]
      rfl
theorem entO_size (r : ORec) : (entO r).text.size ≤ 10 + 20 * r.l.length := by
  have h := Cl.put_len (r.n :: flatO r.l)
  have e : (entO r).text.size = (Cl.put (r.n :: flatO r.l)).length := by unfold entO; exact List.size_toArray
  rw [List.length_cons, flatO_len] at h
  omega

/-- Numbers that can be told: all in 64 bits. -/
def OIn (l : List OutX) : Prop := ∀ x ∈ l, Cl.In64 x.key ∧ Cl.In64 x.val
structure OGood (r : ORec) : Prop where
  n : Cl.In64 r.n
  l : OIn r.l
  len : r.l.length ≤ 1000
  kind : r.kind = 1 ∨ r.kind = 2
theorem OIn.flat {l : List OutX} (h : OIn l) : ∀ n ∈ flatO l, Cl.In64 n := fun n hn => by
  obtain ⟨x, hx, hn⟩ := List.mem_flatMap.1 hn
  simp only [List.mem_cons, List.not_mem_nil, or_false] at hn
  rcases hn with rfl | rfl
  · exact (h x hx).1
  · exact (h x hx).2
theorem OGood.flat {r : ORec} (h : OGood r) : ∀ n ∈ r.n :: flatO r.l, Cl.In64 n := fun n hn => by
  rcases List.mem_cons.1 hn with rfl | hn
  · exact h.n
  · exact h.l.flat n hn
theorem OGood.ent {r : ORec} (h : OGood r) : Lg.Good (entO r) := by
  have h1 := entO_size r
  have h2 := h.len
  refine ⟨?_, by omega⟩
  show r.kind.toNat ≠ 0
  rcases h.kind with e | e <;> rw [e] <;> decide
theorem OGood.frame {r : ORec} (_h : OGood r) : (Lg.frameB (entO r)).length ≤ 25 + 20 * r.l.length := by
  have h1 := entO_size r
  have h2 := Lg.frame_le (entO r)
  omega

/-- The greatest number of a kind: the last one's. -/
def lastO (rs : List ORec) (k : UInt8) : Int := rs.foldl (fun n r => if r.kind = k then r.n else n) 0
theorem lastO_nil (k : UInt8) : lastO [] k = 0 := rfl
theorem lastO_snoc (rs : List ORec) (r : ORec) (k : UInt8) : lastO (rs ++ [r]) k = if r.kind = k then r.n else lastO rs k := by simp [lastO]
def takesO (rs : List ORec) (r : ORec) : Bool :=
  if r.kind = 1 then (decide (lastO rs 1 ≤ r.n) && decide (lastO rs 2 < r.n)) && decide (r.l.length ≤ 1000) else decide (lastO rs 2 < r.n) && decide (lastO rs 1 ≤ r.n)
def countsO (rs : List ORec) : List OutX := (rs.filter fun r => decide (r.n ≤ lastO rs 2)).flatMap (·.l)

structure OSt where
  D : Dk.St
  L : Bool → Lg.St
  r : Bool → List ORec
def fO (p : Bool) : Nat := if p then 3 else 2
def upd {α : Type} (f : Bool → α) (p : Bool) (v : α) : Bool → α := fun q => if q = p then v else f q
theorem upd_same {α : Type} (f : Bool → α) (p : Bool) (v : α) : upd f p v p = v := if_pos rfl
theorem upd_ne {α : Type} (f : Bool → α) {p q : Bool} (v : α) (h : q ≠ p) : upd f p v q = f q := by unfold upd; rw [if_neg h]

def OSt.lput (S : OSt) (p : Bool) (r : Lg.Rec) : Int × OSt := ((Lg.put S.D (fO p) (S.L p) r).1, { S with D := (Lg.put S.D (fO p) (S.L p) r).2.1, L := upd S.L p (Lg.put S.D (fO p) (S.L p) r).2.2 })
def OSt.row (S : OSt) (p : Bool) (r : ORec) : OSt := { S with r := upd S.r p (S.r p ++ [r]) }
def OSt.put (S : OSt) (p : Bool) (r : ORec) : Int × OSt := if (S.lput p (entO r)).1 = 0 then (0, (S.lput p (entO r)).2.row p r) else S.lput p (entO r)
def OSt.lsync (S : OSt) (p : Bool) : Int × OSt := ((Lg.sync S.D (S.L p)).1, { S with D := (Lg.sync S.D (S.L p)).2.1, L := upd S.L p (Lg.sync S.D (S.L p)).2.2 })
/-- Both parts, one behind the other, until an error. -/
def OSt.each (f : OSt → Bool → Int × OSt) (S : OSt) : Int × OSt := if (f S false).1 ≠ 0 then f S false else f (f S false).2 true
def OSt.sync (S : OSt) : Int × OSt := S.each OSt.lsync
def OSt.mark1 (n : Int) (S : OSt) (p : Bool) : Int × OSt := if n ≤ lastO (S.r p) 2 then (0, S) else if takesO (S.r p) ⟨2, n, []⟩ = false then (5, S) else S.put p ⟨2, n, []⟩
def OSt.mark (S : OSt) (n : Int) : Int × OSt := if n < 1 then (2, S) else if (S.each (OSt.mark1 n)).1 ≠ 0 then S.each (OSt.mark1 n) else (S.each (OSt.mark1 n)).2.sync
def OSt.tells (p : Bool) (n : Int) : Nat → OSt → List OutX → Int × OSt
  | 0, S, _ => (0, S)
  | f + 1, S, l => if (S.put p ⟨1, n, l.take 1000⟩).1 ≠ 0 then S.put p ⟨1, n, l.take 1000⟩ else if l.length ≤ 1000 then (0, (S.put p ⟨1, n, l.take 1000⟩).2) else OSt.tells p n f (S.put p ⟨1, n, l.take 1000⟩).2 (l.drop 1000)
/-- Tell to a part that there is. -/
def OSt.tell (S : OSt) (p : Bool) (n : Int) (l : List OutX) : Int × OSt := if n ≤ lastO (S.r p) 1 ∨ n ≤ lastO (S.r p) 2 then (2, S) else OSt.tells p n (l.length / 1000 + 1) S l
def OSt.lcut (S : OSt) (p : Bool) (k : Nat) : Int × OSt := ((Lg.cut S.D (fO p) (S.L p) k).1, { S with D := (Lg.cut S.D (fO p) (S.L p) k).2.1, L := upd S.L p (Lg.cut S.D (fO p) (S.L p) k).2.2 })
def OSt.less (S : OSt) (p : Bool) (k : Nat) : OSt := { S with r := upd S.r p ((S.r p).take k) }
/-- The first record beyond. -/
def beyond (rs : List ORec) (n : Int) : Option Nat := rs.findIdx? fun r => decide (n < r.n)
def OSt.cut1 (n : Int) (S : OSt) (p : Bool) : Int × OSt := match beyond (S.r p) n with
  | none => (0, S)
  | some k => ((S.lcut p k).1, if ((S.lcut p k).2.L p).rs.length = k then (S.lcut p k).2.less p k else (S.lcut p k).2)
def OSt.cut (S : OSt) (n : Int) : Int × OSt := if n < 1 then (2, S) else S.each (OSt.cut1 n)

end Go.Proofs.Ytllecjhfbojgcaa
