/-
  The walk through InputKnown.
-/
import Derived.Test.YtllecjhfbojgcaaInWorks
namespace Go.Proofs.Ytllecjhfbojgcaa
open Go.RowKit
set_option maxRecDepth 20000

set_option maxHeartbeats 4000000 in
theorem inputKnown_walk (w : World) : Calls Try.prog 3 #[] w fun e w' => e = .returned (.bool true) ∧ Below w.heap.size w w' := by
  go_enter Try.func3, Try.ntmps3
  go_wp2_with fail
  refine (live_new 1000 w (by decide)).mono ?_
  rintro e w1 ⟨rfl, h⟩
  have H := Lib.hid (show Live w w1 w.heap.size (Dk.fresh 1000) from h)
  clear h
  unfold ptr
  go_wp2_with fail
  refine (in_open w1 w.heap.size w _ H.out iw_r0 iw_r1).mono ?_
  rintro e w2 ⟨n, l0, l1, rfl, h⟩
  have H := Lib.hid (show InLive w w2 n w.heap.size l0 l1 _ iw0 from h)
  clear h
  unfold ptr
  go_wp2_with fail
  refine (inworks_any _).mono ?_
  rintro e w3 ⟨rfl, hb⟩
  have H := Lib.hid (H.out.below hb)
  clear hb
  go_wp2_with fail
  refine (inadd_arg H.out ⟨2, 0, 0⟩ (.inr (by decide))).mono ?_
  rintro e w4 ⟨rfl, h⟩
  have ha : iw0.add ⟨2, 0, 0⟩ = (2, iw0) := if_pos (.inr (by decide))
  rw [ha] at h ⊢
  have H := Lib.hid h
  clear h ha
  have hlen : iw0.rs.length = 0 := iw_n.1
  have HL := Lib.hid hlen
  clear hlen
  go_wp2_with fail
  refine (at_range H.out 3 (by decide) (by rw [HL.out]; decide)).mono ?_
  rintro e w5 ⟨rfl, hb⟩
  have H := Lib.hid (H.out.below hb)
  clear hb
  go_wp2_with fail
  have H := Lib.hid (H.out.below (bel_alloc w5 (.cells #[.int .i64 0, .int .i64 0, .int .i64 0] 32)))
  refine (cuts_range H.out 1 (.inr (by rw [HL.out]; decide))).mono ?_
  rintro e w6 ⟨rfl, rfl⟩
  go_wp2_with fail
  refine (at_nil 0 _).mono ?_
  rintro e w7 ⟨rfl, hb⟩
  have H := Lib.hid (H.out.below hb)
  clear hb
  go_wp2_with fail
  refine (cuts_nil 0 _).mono ?_
  rintro e w8 ⟨rfl, rfl⟩
  go_wp2_with fail
  refine (inopen_nil _).mono ?_
  rintro e w9 ⟨rfl, hb⟩
  have H := Lib.hid ((H.out.below (bel_alloc w7 (.cells #[.int .i64 0, .int .i64 0, .int .i64 0] 32))).below hb)
  clear hb
  go_wp2_with fail
  refine (inadd_nil ⟨0, 0, 0⟩ _).mono ?_
  rintro e wa ⟨rfl, hb⟩
  have H := Lib.hid (H.out.below hb)
  clear hb
  go_wp2_with fail
  refine (in_len_nil _).mono ?_
  rintro e wb ⟨rfl, rfl⟩
  go_wp2_with fail
  go_ret
  exact ⟨rfl, H.out.bel⟩

end Go.Proofs.Ytllecjhfbojgcaa
