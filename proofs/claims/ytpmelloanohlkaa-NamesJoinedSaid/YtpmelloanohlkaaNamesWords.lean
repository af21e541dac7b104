/-
  The walk through names.Words.
-/
import Derived.Test.YtpmelloanohlkaaNamesRunes
namespace Go.Proofs.Ytpmelloanohlkaa
open Go.RowKit

namespace Cl
def bad (r : Nat) : Bool := decide (r = 65533) || (decide (r < 32) && decide (r ≠ 9))
def words (s : ByteArray) : List (Nat × Nat) → List ByteArray → Int → Option (List ByteArray)
  | [], out, q => some (if 0 ≤ q then out ++ [s.extract q.toNat s.size] else out)
  | (p, r) :: l, out, q => if bad r = true then none else if r = 32 ∨ r = 9 then words s l (if 0 ≤ q then out ++ [s.extract q.toNat p] else out) (-1) else words s l out (if q < 0 then p else q)
def wordsR (s : ByteArray) : List ByteArray × Int := if 400 < s.size then ([], 3) else match words s (runes s) [] (-1) with | none => ([], 10) | some l => (l, 0)
end Cl

def strs (l : List ByteArray) : List Value := l.map Value.string
theorem strs_snoc (l : List ByteArray) (x : ByteArray) : strs l ++ [Value.string x] = strs (l ++ [x]) := by simp [strs]

def WordsSays (s : ByteArray) (w : World) (e : Ending) (w' : World) : Prop :=
  ∃ v, e = .returned (.tuple #[v, .int .i64 (Cl.wordsR s).2]) ∧ Reads w' v (Cl.wordsR s).1.length (strs (Cl.wordsR s).1) ∧ Below w.heap.size w w'

theorem words_says {s : ByteArray} {w w' : World} {v : Value} {r : List ByteArray} {x : Int} (h : Cl.wordsR s = (r, x)) (hr : Reads w' v r.length (strs r)) (hb : Below w.heap.size w w') : WordsSays s w (.returned (.tuple #[v, .int .i64 x])) w' := by
  refine ⟨v, ?_, ?_, hb⟩
  · rw [h]
  · rw [h]; exact hr

theorem infoStr : (Try.prog.info? 9).map (fun i => (i.zero, i.size, i.bytes)) = some (some (.string ⟨#[]⟩), 1, 16) := by kernel_rfl

/-- What stands between two rounds. -/
def Left (s : ByteArray) (pos : Nat) (out : List ByteArray) (q : Int) : Prop :=
  ∃ f, s.size ≤ pos + f ∧ Cl.words s (Cl.runesFrom s f pos) out q = Cl.words s (Cl.runes s) [] (-1)
theorem Left.start (s : ByteArray) : Left s 0 [] (-1) := ⟨s.size, by omega, rfl⟩
theorem Left.step {s : ByteArray} {pos : Nat} {out : List ByteArray} {q : Int} (h : Left s pos out q) (hp : pos < s.size) (r : Nat) (hr : (Utf8.decode s pos).1 = r) :
    ∃ f, s.size ≤ pos + (Utf8.decode s pos).2 + f ∧ Cl.words s ((pos, r) :: Cl.runesFrom s f (pos + (Utf8.decode s pos).2)) out q = Cl.words s (Cl.runes s) [] (-1) := by
  obtain ⟨f, h1, h2⟩ := h
  have hw := Cl.width_pos s pos hp
  obtain ⟨g, rfl⟩ : ∃ g, f = g + 1 := ⟨f - 1, by omega⟩
  rw [Cl.runesFrom_step s g pos hp, hr] at h2
  exact ⟨g, by omega, h2⟩
theorem Left.bad {s : ByteArray} {pos : Nat} {out : List ByteArray} {q : Int} (h : Left s pos out q) (hp : pos < s.size) (hs : s.size ≤ 400) (r : Nat) (hr : (Utf8.decode s pos).1 = r) (hb : Cl.bad r = true) : Cl.wordsR s = ([], 10) := by
  obtain ⟨f, _, h2⟩ := h.step hp r hr
  unfold Cl.wordsR
  rw [if_neg (by omega), ← h2]
  simp [Cl.words, hb]
theorem Left.blank {s : ByteArray} {pos : Nat} {out : List ByteArray} {q : Int} (h : Left s pos out q) (hp : pos < s.size) (r : Nat) (hr : (Utf8.decode s pos).1 = r) (hb : r = 32 ∨ r = 9) : Left s (pos + (Utf8.decode s pos).2) (if 0 ≤ q then out ++ [s.extract q.toNat pos] else out) (-1) := by
  obtain ⟨f, h1, h2⟩ := h.step hp r hr
  refine ⟨f, h1, ?_⟩
  rw [← h2]
  have hbad : ¬ Cl.bad r = true := by rcases hb with rfl | rfl <;> decide
  simp only [Cl.words, if_neg hbad, if_pos hb]
theorem Left.char {s : ByteArray} {pos : Nat} {out : List ByteArray} {q : Int} (h : Left s pos out q) (hp : pos < s.size) (r : Nat) (hr : (Utf8.decode s pos).1 = r) (hb : 32 < r) (h3 : r ≠ 65533) : Left s (pos + (Utf8.decode s pos).2) out (if q < 0 then pos else q) := by
  obtain ⟨f, h1, h2⟩ := h.step hp r hr
  refine ⟨f, h1, ?_⟩
  rw [← h2]
  have hbad : ¬ Cl.bad r = true := by unfold Cl.bad; simp; omega
  simp only [Cl.words, if_neg hbad, if_neg (show ¬ (r = 32 ∨ r = 9) by omega)]
theorem Left.done {s : ByteArray} {pos : Nat} {out : List ByteArray} {q : Int} (h : Left s pos out q) (hp : ¬ pos < s.size) (hs : s.size ≤ 400) : Cl.wordsR s = (if 0 ≤ q then out ++ [s.extract q.toNat s.size] else out, 0) := by
  obtain ⟨f, _, h2⟩ := h
  rw [Cl.runesFrom_end s f pos hp] at h2
  unfold Cl.wordsR
  rw [if_neg (by omega), ← h2]
  simp [Cl.words]

set_option maxHeartbeats 2000000 in
theorem words_any (s : ByteArray) (w : World) (hs : s.size ≤ 140737488351232) :
    Calls Try.prog 10 #[.string s] w (WordsSays s w) := by
  obtain ⟨i0, hi0, hz0, hz1, hz2⟩ := info_parts infoStr
  by_cases hl : 400 < s.size
  · have hW : Cl.wordsR s = ([], 3) := by unfold Cl.wordsR; rw [if_pos hl]
    have HW := Lib.hid hW
    clear hW
    go_enter Try.func10, Try.ntmps10
    go_wp2
    go_ret2
    exact words_says HW.out (Reads.nil _) (Below.refl _ _)
  · have hs4 : s.size ≤ 400 := by omega
    clear hs
    go_enter Try.func10, Try.ntmps10
    go_wp2
    go_loopw [4, 5] (fun v qv wr => ∃ (pos : Nat) (out : List ByteArray) (q : Int), qv = .int .i64 q ∧ (q = -1 ∨ ∃ m : Nat, q = m ∧ m < pos ∧ m < s.size) ∧ out.length ≤ pos ∧ out.length ≤ s.size ∧ wr.heap[w.heap.size]? = some (.stringIter s pos) ∧ Below w.heap.size w wr ∧ Hid (Left s pos out q) ∧ wr.ownsRow (w.heap.size + 1) 9 1 v out.length (strs out)) (fun _ _ wr => s.size - wr.iterPos w.heap.size)
    case atStart =>
      refine ⟨0, [], -1, rfl, .inl rfl, by simp, by simp, ?_, (Below.refl _ w).alloc (Nat.le_refl _) _, Lib.hid (Left.start s), World.ownsRow_nil _ _ _ _⟩
      have := World.iter_heap w s 0
      simpa using this
    case round =>
      obtain ⟨pos, out, q, rfl, hq, hol, hos, hit, hbw, HL, hown⟩ := hrel
      by_cases hp : pos < s.size
      · have hnx := rune_next wr w.heap.size s pos hit hp
        have hwd := Cl.width_pos s pos hp
        have hit2 := Lib.iterAt_heap wr w.heap.size s pos (pos + (Utf8.decode s pos).2) hit
        have hbw2 := Lib.below_iterAt hbw (k := w.heap.size) (Nat.le_refl _) s (pos + (Utf8.decode s pos).2)
        have ho := own_iter hown w.heap.size (by omega) s (pos + (Utf8.decode s pos).2)
        have hpos : wr.iterPos w.heap.size = pos := by simp only [World.iterPos, hit]
        obtain ⟨wi, hwi⟩ : ∃ wi, wr.iterAt w.heap.size s (pos + (Utf8.decode s pos).2) = wi := ⟨_, rfl⟩
        rw [hwi] at hnx hit2 hbw2 ho
        have HBAD := Lib.hid (fun r hr hb => HL.out.bad hp hs4 r hr hb)
        have HBLK := Lib.hid (fun r hr hb => HL.out.blank hp r hr hb)
        have HCHR := Lib.hid (fun r hr hb h3 => HL.out.char hp r hr hb h3)
        obtain ⟨r, hr⟩ : ∃ r, (Utf8.decode s pos).1 = r := ⟨_, rfl⟩
        obtain ⟨d, hd⟩ : ∃ d, (Utf8.decode s pos).2 = d := ⟨_, rfl⟩
        rw [hd] at HBLK HCHR hwd hit2
        rw [hr] at hnx
        have HR := Lib.hid hr
        have HPOS := Lib.hid hpos
        have HWD := Lib.hid hwd
        have HOL := Lib.hid hol
        clear hown hit hbw hwi hpos hr hd hwd hol hos HL hl
        by_cases h1 : r = 65533
        · subst h1
          go_wp2
          go_ret2
          exact words_says (HBAD.out _ HR.out rfl) (Reads.nil _) hbw2
        · by_cases h2 : r < 32 ∧ r ≠ 9
          · obtain ⟨h2, h3⟩ := h2
            have b1 : ((r : Int) == 65533) = false := by simp; omega
            have b2 : ((r : Int) != 9) = true := by simp; omega
            have b3 : ((r : Int) < 32) := by omega
            go_wp2
            go_ret2
            exact words_says (HBAD.out _ HR.out (by simp [Cl.bad, h2, h3])) (Reads.nil _) hbw2
          · by_cases h4 : 32 < r
            · have b1 : ((r : Int) == 65533) = false := by simp; omega
              have b2 : ((r : Int) == 32) = false := by simp; omega
              have b3 : ((r : Int) == 9) = false := by simp; omega
              have b4 : ¬ ((r : Int) < 32) := by omega
              rcases hq with rfl | ⟨m, rfl, hm1, hm2⟩
              · go_wp2
                go_roundw
                case rel => exact ⟨pos + d, out, pos, rfl, .inr ⟨pos, rfl, by have := HWD.out; omega, hp⟩, by have := HOL.out; omega, by have := HOL.out; omega, hit2, hbw2, Lib.hid (HCHR.out r HR.out h4 h1), ho⟩
                case measure =>
                  rw [HPOS.out]
                  simp only [World.iterPos, hit2]
                  have := HWD.out
                  omega
              · go_wp2
                go_roundw
                case rel =>
                  refine ⟨pos + d, out, m, rfl, .inr ⟨m, rfl, by omega, hm2⟩, by have := HOL.out; omega, by have := HOL.out; omega, hit2, hbw2, Lib.hid ?_, ho⟩
                  have := HCHR.out r HR.out h4 h1
                  rw [if_neg (by omega)] at this
                  exact this
                case measure =>
                  rw [HPOS.out]
                  simp only [World.iterPos, hit2]
                  have := HWD.out
                  omega
            · have h5 : r = 32 ∨ r = 9 := by omega
              have HB2 := Lib.hid (HBLK.out r HR.out h5)
              clear h1 h2 h4
              rcases hq with rfl | ⟨m, rfl, hm1, hm2⟩
              · rcases h5 with rfl | rfl
                all_goals
                  go_wp2
                  go_roundw
                  case rel => exact ⟨pos + d, out, -1, rfl, .inl rfl, by have := HOL.out; omega, by have := HOL.out; omega, hit2, hbw2, Lib.hid HB2.out, ho⟩
                  case measure =>
                    rw [HPOS.out]
                    simp only [World.iterPos, hit2]
                    have := HWD.out
                    omega
              · have hqm : ¬ ((m : Int) < 0) := by omega
                rcases h5 with rfl | rfl
                all_goals
                  go_wp2_with ((at_builtin; refine wpList_append_own _ rfl _ _ 23 rfl (w.heap.size + 1) 9 i0 (.string ⟨#[]⟩) 1 16 Try.underlying23 hi0 hz0 hz1 hz2 rfl (by decide) _ _ _ rfl (ho.alloc _) ⟨wi.heap.size, 0, none⟩ 1 1 [.string (s.extract m pos)] rfl rfl (cell_one_new _ _ _) (by simp [Value.oneCell']) (by have := HOL.out; unfold maxLen; omega) (by have := HOL.out; omega) (by have := (Array.getElem?_eq_some_iff.1 hit2).1; simp; omega) ?_))
                  intro v1 w1 hv1 hg1 _
                  have hb1 := below_pushed2 (B := w.heap.size + 1) (by omega) hbw2 ho _ hg1
                  have hi1 := iter_grown hit2 ho (by omega) hg1
                  clear hg1 ho hbw2 hit2 hnx
                  go_wp2
                  go_roundw
                  case rel =>
                    refine ⟨pos + d, out ++ [s.extract m pos], -1, rfl, .inl rfl, by have := HOL.out; have := HWD.out; simp; omega, by have := HOL.out; simp; omega, hi1, hb1, Lib.hid ?_, ?_⟩
                    · have := HB2.out
                      rw [if_pos (by omega)] at this
                      exact this
                    · rw [List.length_append, ← strs_snoc]; exact hv1
                  case measure =>
                    rw [HPOS.out]
                    simp only [World.iterPos, hi1]
                    have := HWD.out
                    omega
      · have hnx := rune_end wr w.heap.size s pos hit hp
        have HD := Lib.hid (HL.out.done hp hs4)
        rcases hq with rfl | ⟨m, rfl, hm1, hm2⟩
        · go_wp2
          go_ret2
          exact words_says HD.out (Reads.own hown) hbw
        · have hqm : ¬ ((m : Int) < 0) := by omega
          have hp2 : s.size ≤ pos := by omega
          have hlt := (Array.getElem?_eq_some_iff.1 hit).1
          go_wp2_with ((at_builtin; refine wpList_append_own _ rfl _ _ 23 rfl (w.heap.size + 1) 9 i0 (.string ⟨#[]⟩) 1 16 Try.underlying23 hi0 hz0 hz1 hz2 rfl (by decide) _ _ _ rfl (hown.alloc _) ⟨wr.heap.size, 0, none⟩ 1 1 [.string (s.extract m s.size)] rfl rfl (cell_one_new _ _ _) (by simp [Value.oneCell']) (by unfold maxLen; omega) (by omega) (by simp; omega) ?_))
          intro v1 w1 hv1 hg1 _
          have hb1 := below_pushed2 (B := w.heap.size + 1) (by omega) hbw hown _ hg1
          clear hg1 hown hbw hit hnx
          go_wp2
          go_ret2
          refine words_says (HD.out.trans (by rw [if_pos (by omega)])) ?_ hb1
          rw [List.length_append, ← strs_snoc]; exact Reads.own hv1

end Go.Proofs.Ytpmelloanohlkaa
