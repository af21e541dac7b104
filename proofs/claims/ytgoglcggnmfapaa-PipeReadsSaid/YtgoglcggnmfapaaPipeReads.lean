/-
  The walk through the statement PipeReads.
-/
import Derived.Test.YtgoglcggnmfapaaPipeRefR
import Derived.Test.YtgoglcggnmfapaaPipeBack
namespace Go.Proofs.Ytgoglcggnmfapaa
open Go.RowKit Go.Conc

/-- Bytes: both programs. -/
def bytesOf (m : MsgP) : ByteArray := if mayB m = true then ⟨(msgBytes m).toArray⟩ else ⟨#[]⟩
def bytesErr (m : MsgP) : Int := if mayB m = true then 0 else 2
theorem pbytes_any (m : MsgP) (lv : Value) (w : World) (hr : Reads w lv m.l.length (recCells m.l)) (hi : In64M m) (hn : m.l.length ≤ 4000) :
    Calls Try.prog 21 #[.agg #[.int .i64 m.seq, .int .i64 m.bar, lv]] w fun e w' => e = .returned (.tuple #[.string (bytesOf m), .int .i64 (bytesErr m)]) ∧ Below w.heap.size w w' := by
  unfold bytesOf bytesErr
  cases hm : mayB m with
  | true => exact pbytes_ok m lv w hr hm hi hn
  | false => exact pbytes_bad m lv w hr hm
theorem refbytes_any (m : MsgP) (lv : Value) (w : World) (hr : Reads w lv m.l.length (recCells m.l)) (hi : In64M m) (hn : m.l.length ≤ 4000) :
    Calls Try.prog 23 #[.agg #[.int .i64 m.seq, .int .i64 m.bar, lv]] w fun e w' => e = .returned (.tuple #[.string (bytesOf m), .int .i64 (bytesErr m)]) ∧ Below w.heap.size w w' := by
  unfold bytesOf bytesErr
  cases hm : mayB m with
  | true => exact refbytes_ok m lv w hr hm hi hn
  | false => exact refbytes_bad m lv w hr hm

set_option maxHeartbeats 4000000 in
theorem pipeReads_walk (m : MsgP) (lv : Value) (s : ByteArray) (w : World) (hr : Reads w lv m.l.length (recCells m.l)) (hi : In64M m) (hs : s.size ≤ 140737488351232) :
    Calls Try.prog 6 #[.agg #[.int .i64 m.seq, .int .i64 m.bar, lv], .string s] w fun e w' => e = .returned (.bool true) ∧ Below w.heap.size w w' := by
  have HR := Lib.hid hr
  have HI := Lib.hid hi
  have hlx := hr.lenLe
  unfold maxLen at hlx
  obtain ⟨a, c, rfl⟩ := hr.shape
  clear hr hi
  by_cases hbig : 1000 < m.l.length
  · have hb : decide ((1000 : Int) < (m.l.length : Int)) = true := by simp; omega
    clear hbig
    go_enter Try.func6, Try.ntmps6
    go_wp2_with fail
    refine (pworks_any _).mono ?_
    rintro e w1 ⟨rfl, hb1⟩
    go_wp2_with fail
    go_ret
    exact ⟨rfl, bel_trans (bel_alloc _ _) hb1⟩
  · have hb : decide ((1000 : Int) < (m.l.length : Int)) = false := by simp; omega
    have hbig : m.l.length ≤ 1000 := by omega
    by_cases hsb : 10000 < s.size
    · have hb' : decide ((10000 : Int) < (s.size : Int)) = true := by simp; omega
      clear hbig hsb
      go_enter Try.func6, Try.ntmps6
      go_wp2_with fail
      refine (pworks_any _).mono ?_
      rintro e w1 ⟨rfl, hb1⟩
      go_wp2_with fail
      go_ret
      exact ⟨rfl, bel_trans (bel_alloc _ _) hb1⟩
    · have hb' : decide ((10000 : Int) < (s.size : Int)) = false := by simp; omega
      have hsb : s.size ≤ 10000 := by omega
      go_enter Try.func6, Try.ntmps6
      obtain ⟨A, hA⟩ : ∃ A, w.alloc (.cells #[.int .i64 m.seq, .int .i64 m.bar, .slice a m.l.length c] 33) = A := ⟨_, rfl⟩
      have hbA : Below w.heap.size w A := by rw [← hA]; exact bel_alloc _ _
      have hbx : A.heap[w.heap.size]? = some (.cells #[.int .i64 m.seq, .int .i64 m.bar, .slice a m.l.length c] 33) := by rw [← hA]; exact heap_alloc_new w _
      have hrA := HR.out.below hbA
      have HBA := Lib.hid hbA
      have HBX := Lib.hid hbx
      have HRA := Lib.hid hrA
      have HA := Lib.hid hA
      clear hbA hbx hrA hA
      go_wp2_with fail
      rw [HA.out]
      refine (pbytes_any m _ _ HRA.out HI.out (by omega)).mono ?_
      rintro e w1 ⟨rfl, hb1⟩
      have hbx1 := (hb1.block _ (Array.getElem?_eq_some_iff.1 HBX.out).1).trans HBX.out
      have m0 := cells_at hbx1 0 _ rfl
      have m1 := cells_at hbx1 1 _ rfl
      have m2 := cells_at hbx1 2 _ rfl
      simp only [List.getElem_toArray, List.getElem_cons_succ, List.getElem_cons_zero] at m0 m1 m2
      have HB1 := Lib.hid hb1
      have HBX1 := Lib.hid hbx1
      have HR1 := Lib.hid (HRA.out.below hb1)
      clear hb1 hbx1
      obtain ⟨t, ht⟩ : ∃ t, bytesOf m = t := ⟨_, rfl⟩
      obtain ⟨x, hx⟩ : ∃ x, bytesErr m = x := ⟨_, rfl⟩
      rw [ht, hx]
      have HT := Lib.hid ht
      have HX := Lib.hid hx
      clear ht hx
      go_wp2_with fail
      have hrb := refbytes_any m _ w1 HR1.out HI.out (by omega)
      rw [HT.out, HX.out] at hrb
      refine hrb.mono ?_
      rintro e w2 ⟨rfl, hb2⟩
      have hbx2 := (hb2.block _ (Array.getElem?_eq_some_iff.1 HBX1.out).1).trans HBX1.out
      have m0 := cells_at hbx2 0 _ rfl
      have m1 := cells_at hbx2 1 _ rfl
      have m2 := cells_at hbx2 2 _ rfl
      simp only [List.getElem_toArray, List.getElem_cons_succ, List.getElem_cons_zero] at m0 m1 m2
      have HB2 := Lib.hid (bel_trans HBA.out (bel_trans HB1.out hb2))
      have HR2 := Lib.hid (HR1.out.below hb2)
      have HLT := Lib.hid (show w.heap.size < w2.heap.size from (Array.getElem?_eq_some_iff.1 hbx2).1)
      clear hrb hbx2 hb2
      go_wp2_with fail
      have hlt2 : w.heap.size < w2.heap.size := HLT.out
      go_region_held3 (fun w' => Below w2.heap.size w2 w' ∧ w'.cell? ⟨w.heap.size, 0, none⟩ = some (.int .i64 m.seq) ∧ w'.cell? ⟨w.heap.size, 1, none⟩ = some (.int .i64 m.bar) ∧ w'.cell? ⟨w.heap.size, 2, none⟩ = some (.slice a m.l.length c))
        (first
          | exact ⟨bel_drew _, m0, m1, m2⟩
          | exact ⟨hS.1.trans (hb3.mono hS.1.size), (hb3.cell (p := ⟨w.heap.size, 0, none⟩) (Nat.lt_of_lt_of_le hlt2 hS.1.size)).trans hS.2.1, (hb3.cell (p := ⟨w.heap.size, 1, none⟩) (Nat.lt_of_lt_of_le hlt2 hS.1.size)).trans hS.2.2.1, (hb3.cell (p := ⟨w.heap.size, 2, none⟩) (Nat.lt_of_lt_of_le hlt2 hS.1.size)).trans hS.2.2.2⟩)
        (first
          | (go_at_call 22; have hS := ‹Below w2.heap.size w2 _ ∧ _›; refine (may_any m _ _ (HR2.out.below hS.1)).mono ?_; rintro e w3 ⟨rfl, hb3⟩)
          | (go_at_call 24; have hS := ‹Below w2.heap.size w2 _ ∧ _›; refine (refmay_any m _ _ (HR2.out.below hS.1)).mono ?_; rintro e w3 ⟨rfl, hb3⟩))
      all_goals
        have hF := (‹Below w2.heap.size w2 _ ∧ _›).1
        have HF := Lib.hid (bel_trans HB2.out hF)
        clear m0 m1 m2
        go_wp2_with fail
        refine (pread_any s _ (by omega)).mono ?_
        rintro e w5 ⟨hnone, hok, hb5⟩
        have HF5 := Lib.hid (bel_trans HF.out hb5)
        cases hrd : readP s.data.toList with
        | none =>
          obtain rfl := hnone hrd
          clear hnone hok hb5
          unfold zeroMsg
          go_wp2_with fail
          refine (refread_any s _ (by omega)).mono ?_
          rintro e w7 ⟨hnone2, -, hb7⟩
          obtain rfl := hnone2 hrd
          have hbx5 := (hb7.block w5.heap.size (by simp)).trans (heap_alloc_new w5 _)
          have hx57 : w5.heap.size < w7.heap.size := (Array.getElem?_eq_some_iff.1 hbx5).1
          have x0 := cells_at hbx5 0 _ rfl
          have x1 := cells_at hbx5 1 _ rfl
          have x2 := cells_at hbx5 2 _ rfl
          simp only [List.getElem_toArray, List.getElem_cons_succ, List.getElem_cons_zero] at x0 x1 x2
          have HF7 := Lib.hid (bel_trans HF5.out (bel_trans (bel_alloc w5 (.cells #[.int .i64 0, .int .i64 0, .slice none 0 0] 33)) hb7))
          clear hnone2 hbx5 hb7
          unfold zeroMsg
          go_wp2_with fail
          refine (same_same 0 0 _ _ [] _ (Reads.nil _) (Reads.nil _)).mono ?_
          rintro e w8 ⟨rfl, hb8⟩
          go_wp2_with fail
          refine (pworks_any _).mono ?_
          rintro e w9 ⟨rfl, hb9⟩
          go_wp2_with fail
          go_ret
          exact ⟨rfl, bel_trans HF7.out (bel_trans (bel_alloc _ _) (bel_trans hb8 hb9))⟩
        | some m2 =>
          obtain ⟨lv3, rfl, hr3⟩ := hok m2 hrd
          obtain ⟨a3, c3, rfl⟩ := hr3.shape
          have HR3 := Lib.hid hr3
          clear hnone hok hb5 hr3
          go_wp2_with fail
          refine (refread_any s _ (by omega)).mono ?_
          rintro e w7 ⟨-, hok2, hb7⟩
          obtain ⟨lv4, rfl, hr4⟩ := hok2 m2 hrd
          obtain ⟨a4, c4, rfl⟩ := hr4.shape
          have hbx5 := (hb7.block w5.heap.size (by simp)).trans (heap_alloc_new w5 _)
          have hx57 : w5.heap.size < w7.heap.size := (Array.getElem?_eq_some_iff.1 hbx5).1
          have x0 := cells_at hbx5 0 _ rfl
          have x1 := cells_at hbx5 1 _ rfl
          have x2 := cells_at hbx5 2 _ rfl
          simp only [List.getElem_toArray, List.getElem_cons_succ, List.getElem_cons_zero] at x0 x1 x2
          have HF7 := Lib.hid (bel_trans HF5.out (bel_trans (bel_alloc w5 (.cells #[.int .i64 m2.seq, .int .i64 m2.bar, .slice a3 m2.l.length c3] 33)) hb7))
          have HR37 := Lib.hid ((HR3.out.below (bel_alloc w5 (.cells #[.int .i64 m2.seq, .int .i64 m2.bar, .slice a3 m2.l.length c3] 33))).below hb7)
          have HR4 := Lib.hid hr4
          clear hok2 hbx5 hb7 hr4 hrd
          go_wp2_with fail
          refine (same_same m2.seq m2.bar _ _ m2.l _ (HR37.out.below (bel_alloc _ _)) (HR4.out.below (bel_alloc _ _))).mono ?_
          rintro e w8 ⟨rfl, hb8⟩
          go_wp2_with fail
          refine (pworks_any _).mono ?_
          rintro e w9 ⟨rfl, hb9⟩
          go_wp2_with fail
          go_ret
          exact ⟨rfl, bel_trans HF7.out (bel_trans (bel_alloc _ _) (bel_trans hb8 hb9))⟩

end Go.Proofs.Ytgoglcggnmfapaa
