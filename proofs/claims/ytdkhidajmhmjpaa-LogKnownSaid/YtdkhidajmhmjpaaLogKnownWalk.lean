/-
  The walk through LogKnown.
-/
import Derived.Test.YtdkhidajmhmjpaaLogWorks
namespace Go.Proofs.Ytdkhidajmhmjpaa
open Go.RowKit
set_option maxRecDepth 20000

theorem wl_c : (Lg.cut wl2 0 ⟨[wr1, wr2], 0⟩ 1).1 = 0 ∧ (Lg.cut wl2 0 ⟨[wr1, wr2], 0⟩ 1).2.2 = ⟨[wr1], 1⟩ := ⟨by kernel_rfl, by kernel_rfl⟩
theorem wl_m : wl2.loose.length = 2 := by kernel_rfl
theorem wl_r : (Dk.read (Lg.cut wl2 0 ⟨[wr1, wr2], 0⟩ 1).2.1 (-1)).2 = 2 := by kernel_rfl

theorem live_off {w0 w : World} {d : Nat} {D : Dk.St} (h : Live w0 w d D) (file : Int) (hr : (Dk.read D file).2 ≠ 0) :
    Calls Try.prog 9 #[ptr d 0, .int .i64 file] w fun e w' => e = .returned (.tuple #[.pointer none, .int .i64 (Dk.read D file).2]) ∧ Live w0 w' d D := by
  have h' := h
  obtain ⟨F, h1, h2, h3⟩ := h
  refine (logopen_off w d D F h1 file hr).mono ?_
  rintro e w' ⟨rfl, hb⟩
  exact ⟨rfl, h'.below hb⟩

set_option maxHeartbeats 2000000 in
theorem logKnown_walk (w : World) : Calls Try.prog 4 #[] w fun e w' => e = .returned (.bool true) ∧ Below w.heap.size w w' := by
  have HLL := Lib.hid wl_len
  have HF := Lib.hid wl_free
  go_enter Try.func4, Try.ntmps4
  go_wp2_with fail
  refine (live_new 1000 w (by decide)).mono ?_
  rintro e w1 ⟨rfl, h⟩
  have H := Lib.hid (show Live w w1 w.heap.size wl0 from h)
  clear h
  unfold ptr
  go_wp2_with fail
  refine (lg_open0 H.out HF.out.2 [] [] (by kernel_rfl) (by kernel_rfl) (by decide) (by rw [HLL.out.1]; decide)).mono ?_
  rintro e w2 ⟨l, rfl, h⟩
  have H := Lib.hid (show LgLive w w2 l w.heap.size 0 wl0 ⟨[], 0⟩ from h)
  clear h
  unfold ptr
  go_wp2_with fail
  refine (lworks_any _).mono ?_
  rintro e w3 ⟨rfl, hb⟩
  have H := Lib.hid (H.out.below hb)
  clear hb
  go_wp2_with fail
  refine (lg_len H.out).mono ?_
  rintro e w4 ⟨rfl, rfl⟩
  go_wp2_with fail
  refine (lg_put H.out wr1 (by decide) (by rw [HLL.out.1]; decide) (by decide)).mono ?_
  rintro e w4 ⟨rfl, h⟩
  rw [wl_p1.1]
  rw [wl_p1.2] at h
  have H := Lib.hid (show LgLive w w4 l w.heap.size 0 wl1 ⟨[wr1], 0⟩ from h)
  clear h
  go_wp2_with fail
  refine (lg_put H.out wr2 (by decide) (by rw [HLL.out.2.1]; decide) (of_decide_eq_true (by kernel_rfl))).mono ?_
  rintro e w5 ⟨rfl, h⟩
  rw [wl_p2.1]
  rw [wl_p2.2] at h
  have H := Lib.hid (show LgLive w w5 l w.heap.size 0 wl2 ⟨[wr1, wr2], 0⟩ from h)
  clear h
  go_wp2_with fail
  refine (lg_cut H.out 1 (by rw [wl_m]; decide)).mono ?_
  rintro e w6 ⟨rfl, h⟩
  rw [wl_c.1]
  rw [wl_c.2] at h
  have H := Lib.hid h
  clear h
  go_wp2_with fail
  refine (lg_len H.out).mono ?_
  rintro e w7 ⟨rfl, rfl⟩
  go_wp2_with fail
  refine (lg_sure H.out).mono ?_
  rintro e w7 ⟨rfl, rfl⟩
  go_wp2_with fail
  refine (logat_nil 0 _).mono ?_
  rintro e w7 ⟨rfl, rfl⟩
  go_wp2_with fail
  refine (logopen_nil 0 _).mono ?_
  rintro e w7 ⟨rfl, rfl⟩
  go_wp2_with fail
  refine (live_off H.out.disk (-1) (by rw [wl_r]; decide)).mono ?_
  rintro e w7 ⟨rfl, h⟩
  rw [wl_r]
  have H := Lib.hid h
  clear h
  go_wp2_with fail
  refine (logput_nil 1 _ _).mono ?_
  rintro e w8 ⟨rfl, rfl⟩
  go_wp2_with fail
  refine (logsync_nil _).mono ?_
  rintro e w8 ⟨rfl, rfl⟩
  go_wp2_with fail
  refine (logcut_nil 0 _).mono ?_
  rintro e w8 ⟨rfl, rfl⟩
  go_wp2_with fail
  refine (loglen_nil _).mono ?_
  rintro e w8 ⟨rfl, rfl⟩
  go_wp2_with fail
  refine (logsure_nil _).mono ?_
  rintro e w8 ⟨rfl, rfl⟩
  go_wp2_with fail
  go_ret
  exact ⟨rfl, H.out.bel⟩

end Go.Proofs.Ytdkhidajmhmjpaa
