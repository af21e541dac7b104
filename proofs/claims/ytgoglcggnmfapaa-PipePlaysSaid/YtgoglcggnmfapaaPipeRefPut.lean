/-
  The reference's Put walked: the refusals.
-/
import Derived.Test.YtgoglcggnmfapaaPipeRefP
namespace Go.Proofs.Ytgoglcggnmfapaa
open Go.RowKit Go.Conc

theorem refput_bad (w : World) (rb : Nat) (m : MsgP) (lv : Value) (hr : Reads w lv m.l.length (recCells m.l)) (hm : mayB m = false) :
    Calls Try.prog 12 #[.pointer (some ⟨rb, 0, none⟩), .agg #[.int .i64 m.seq, .int .i64 m.bar, lv]] w fun e w' => e = .returned (.int .i64 2) ∧ Below w.heap.size w w' := by
  have HR := Lib.hid (hr.below (bel_alloc w (.cells #[.int .i64 m.seq, .int .i64 m.bar, lv] 33)))
  obtain ⟨a, c, rfl⟩ := hr.shape
  have HM := Lib.hid hm
  clear hr hm
  go_enter Try.func12, Try.ntmps12
  go_wp2_with fail
  refine (refmay_any m _ _ HR.out).mono ?_
  rintro e w1 ⟨rfl, hb1⟩
  rw [HM.out]
  go_wp2_with fail
  go_ret
  exact ⟨rfl, bel_trans (bel_alloc _ _) hb1⟩

theorem refput_full (w : World) (rb n N : Nat) (Lv : Value) (ms : List MsgV) (h : RefAt w rb n N Lv ms) (m : MsgP) (lv : Value) (hr : Reads w lv m.l.length (recCells m.l)) (hm : mayB m = true) (hf : n ≤ ms.length) :
    Calls Try.prog 12 #[.pointer (some ⟨rb, 0, none⟩), .agg #[.int .i64 m.seq, .int .i64 m.bar, lv]] w fun e w' => e = .returned (.int .i64 7) ∧ Below w.heap.size w w' := by
  have HR := Lib.hid (hr.below (bel_alloc w (.cells #[.int .i64 m.seq, .int .i64 m.bar, lv] 33)))
  obtain ⟨a, c, rfl⟩ := hr.shape
  obtain ⟨la, lc, rfl⟩ := h.row.shape
  have H := Lib.hid h
  have HM := Lib.hid hm
  clear hr hm h
  go_enter Try.func12, Try.ntmps12
  go_wp2_with fail
  refine (refmay_any m _ _ HR.out).mono ?_
  rintro e w1 ⟨rfl, hb1⟩
  rw [HM.out]
  have hra := H.out.below (bel_trans (bel_alloc _ _) hb1)
  have b0 := cells_at hra.box 0 _ rfl
  have b1 := cells_at hra.box 1 _ rfl
  simp only [List.getElem_toArray, List.getElem_cons_succ, List.getElem_cons_zero] at b0 b1
  have hd : decide ((n : Int) ≤ (ms.length : Int)) = true := by simp; omega
  have HB := Lib.hid (bel_trans (bel_alloc w _) hb1)
  clear hra hb1
  go_wp2_with fail
  go_quiet (fail)
  go_wp2_with fail
  go_ret
  exact ⟨rfl, bel_trans HB.out ⟨rfl, rfl, rfl, Nat.le_refl _, fun _ _ => rfl⟩⟩

end Go.Proofs.Ytgoglcggnmfapaa
