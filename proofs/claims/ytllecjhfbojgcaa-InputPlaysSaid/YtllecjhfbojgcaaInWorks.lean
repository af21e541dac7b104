/-
  What 'works' goes through; its walk.
-/
import Derived.Test.YtllecjhfbojgcaaInAdd0
import Derived.Test.YtllecjhfbojgcaaInCuts
import Derived.Test.YtllecjhfbojgcaaSlInts
namespace Go.Proofs.Ytllecjhfbojgcaa
open Go.RowKit
set_option maxRecDepth 20000

def iw0 : InSt := ⟨Dk.fresh 1000, ⟨[], 0⟩, ⟨[], 0⟩, []⟩
def iw1 : InSt := (iw0.add ⟨0, 5, 2⟩).2
def iw2 : InSt := (iw1.add ⟨1, 6, 1⟩).2
def iw3 : InSt := (iw2.add ⟨0, 7, 3⟩).2
theorem iw_e1 : (iw0.add ⟨0, 5, 2⟩).1 = 0 := by kernel_rfl
theorem iw_e2 : (iw1.add ⟨1, 6, 1⟩).1 = 0 := by kernel_rfl
theorem iw_e3 : (iw2.add ⟨0, 7, 3⟩).1 = 0 := by kernel_rfl
theorem iw_t : (iw0.ent ⟨0, 5, 2⟩).text.size ≤ 140737488351232 ∧ (iw1.ent ⟨1, 6, 1⟩).text.size ≤ 140737488351232 ∧ (iw2.ent ⟨0, 7, 3⟩).text.size ≤ 140737488351232 := ⟨by decide +kernel, by decide +kernel, by decide +kernel⟩
theorem iw_m : iw0.D.loose.length ≤ 1000000000 ∧ iw1.D.loose.length ≤ 1000000000 ∧ iw2.D.loose.length ≤ 1000000000 := ⟨by decide +kernel, by decide +kernel, by decide +kernel⟩
theorem iw_b : (Lg.bytesOf iw0.L0.rs).length ≤ 900000000 ∧ (Lg.bytesOf iw1.L1.rs).length ≤ 900000000 ∧ (Lg.bytesOf iw2.L0.rs).length ≤ 900000000 := ⟨by decide +kernel, by decide +kernel, by decide +kernel⟩
theorem iw_n : iw0.rs.length = 0 ∧ iw1.rs.length = 1 ∧ iw2.rs.length = 2 := ⟨by kernel_rfl, by kernel_rfl, by kernel_rfl⟩
theorem iw_rs : iw3.rs = [⟨0, 5, 2⟩, ⟨1, 6, 1⟩, ⟨0, 7, 3⟩] := by kernel_rfl
theorem iw_r0 : Dk.read (Dk.fresh 1000) 0 = (⟨#[]⟩, 0) := by kernel_rfl
theorem iw_r1 : Dk.read (Dk.fresh 1000) 1 = (⟨#[]⟩, 0) := by kernel_rfl

theorem in64_small (n : Int) (h : 0 ≤ n ∧ n ≤ 1000) : Cl.In64 n := by unfold Cl.In64; omega

theorem reads_two {w : World} {g : Nat} {a b : Int} {ty : TypeId} (h : w.heap[g]? = some (.cells #[.int .i64 a, .int .i64 b] ty)) : Reads w (.slice (some ⟨g, 0, none⟩) 2 2) [a, b].length (ints [a, b]) :=
  .inr ⟨g, 0, 2, rfl, Nat.le_refl _, by unfold maxLen; decide, (Array.getElem?_eq_some_iff.1 h).1, fun i c hi => by rw [Nat.zero_add]; exact cells_at h i c (by simpa [ints] using hi)⟩

set_option maxHeartbeats 4000000 in
theorem inworks_any (w : World) : Calls Try.prog 14 #[] w fun e w' => e = .returned (.bool true) ∧ Below w.heap.size w w' := by
  go_enter Try.func14, Try.ntmps14
  go_wp2_with fail
  refine (live_new 1000 w (by decide)).mono ?_
  rintro e w1 ⟨rfl, h⟩
  have H := Lib.hid (show Live w w1 w.heap.size (Dk.fresh 1000) from h)
  clear h
  unfold ptr
  go_wp2_with fail
  refine (in_open w1 w.heap.size w _ H.out iw_r0 iw_r1).mono ?_
  rintro e w2 ⟨n, l0, l1, rfl, h⟩
  have H := Lib.hid (show InLive w w2 n w.heap.size l0 l1 _ iw0 from h)
  clear h
  unfold ptr
  go_wp2_with fail
  refine (inadd_0 H.out 5 2 (in64_small _ (by decide)) (in64_small _ (by decide)) (by rw [iw_n.1]; decide) iw_t.1 iw_m.1 iw_b.1).mono ?_
  rintro e w3 ⟨v3, rfl, h⟩
  rw [iw_e1]
  have H := Lib.hid (show InLive w w3 n w.heap.size l0 l1 _ iw1 from h)
  clear h
  go_wp2_with fail
  refine (inadd_1 H.out 6 1 (in64_small _ (by decide)) (in64_small _ (by decide)) (by rw [iw_n.2.1]; decide) iw_t.2.1 iw_m.2.1 iw_b.2.1).mono ?_
  rintro e w4 ⟨v4, rfl, h⟩
  rw [iw_e2]
  have H := Lib.hid (show InLive w w4 n w.heap.size l0 l1 _ iw2 from h)
  clear h
  go_wp2_with fail
  refine (inadd_0 H.out 7 3 (in64_small _ (by decide)) (in64_small _ (by decide)) (by rw [iw_n.2.2]; decide) iw_t.2.2 iw_m.2.2 iw_b.2.2).mono ?_
  rintro e w5 ⟨v5, rfl, h⟩
  rw [iw_e3]
  have H := Lib.hid (show InLive w w5 n w.heap.size l0 l1 _ iw3 from h)
  clear h
  go_wp2_with fail
  have hlen : iw3.rs.length = 3 := by rw [iw_rs]; rfl
  refine (cuts_good H.out 3 (by rw [hlen]; decide) (by rw [hlen]; decide) (by rw [hlen]; decide) (by rw [iw_rs]; intro x hx; simp only [List.mem_cons, List.not_mem_nil, or_false] at hx; rcases hx with rfl | rfl | rfl; exact .inl rfl; exact .inr rfl; exact .inl rfl)).mono ?_
  rintro e w6 ⟨g, rfl, hge, hb, hg⟩
  have hh := H.out.below hb
  rw [iw_rs] at hg
  have HG := Lib.hid (show w6.heap[g]? = some (.cells #[.int .i64 2, .int .i64 1] 3) from hg)
  have H := Lib.hid hh
  clear hh hb hg
  have HL := Lib.hid hlen
  clear hlen
  go_wp2_with fail
  refine (eqInts_any _ _ [2, 1] [2, 1] _ (reads_two ((Below.heap_alloc w6 _ g (Array.getElem?_eq_some_iff.1 HG.out).1).trans HG.out)) (reads_two (heap_alloc_new w6 _))).mono ?_
  rintro e w7 ⟨rfl, k, rfl⟩
  have H := Lib.hid ((H.out.below (bel_alloc w6 (.cells #[.int .i64 2, .int .i64 1] 3))).below (bel_drewN _ k))
  go_wp2_with fail
  refine (in_len H.out).mono ?_
  rintro e w8 ⟨rfl, rfl⟩
  rw [HL.out]
  go_wp2_with fail
  go_ret
  exact ⟨rfl, H.out.bel⟩

end Go.Proofs.Ytllecjhfbojgcaa
