/-
  The walk through the statement DiskPlays.
-/
import Derived.Test.YtdnjmihalmhddaaDoesWalk
import Derived.Test.YtdnjmihalmhddaaFreeGate
import Derived.Test.YtdnjmihalmhddaaDiskAll
namespace Go.Proofs.Ytdnjmihalmhddaa
open Go.RowKit

set_option maxHeartbeats 16000000 in
set_option maxRecDepth 100000 in
theorem diskPlays_walk (room : Int) (v : Value) (l : List Dop) (w : World) (_hroom : (Lit.int .i64 room).wf = true) (hr : Reads w v l.length (dopCells l)) (hi : ∀ r ∈ l, (Lit.int .i64 r.f).wf = true ∧ (Lit.int .i64 r.n).wf = true ∧ (Lit.int .i64 r.m).wf = true ∧ r.s.size ≤ maxLen) :
    Calls Try.prog 5 #[.int .i64 room, v] w fun e w' => e = .returned (.bool true) ∧ Below w.heap.size w w' := by
  have hlen := hr.lenLe
  unfold maxLen at hlen
  have HR := Lib.hid hr
  have HI := Lib.hid hi
  have hhv := heavy_any _ l w hr (fun r hr => (hi r hr).2.2.2)
  obtain ⟨a, c, rfl⟩ := hr.shape
  clear hr hi
  obtain ⟨m, hm⟩ : ∃ m, l.length = m := ⟨_, rfl⟩
  have HM := Lib.hid hm
  rw [hm] at hlen hhv
  rw [hm]
  have HHV := Lib.hid hhv
  clear hm hhv
  go_enter Try.func5, Try.ntmps5
  go_wp2_with fail
  refine HHV.out.mono ?_
  rintro e w1 (⟨rfl, hm3, hb1⟩ | ⟨rfl, hb1⟩)
  · have HB1 := Lib.hid hb1
    clear hb1
    by_cases hrm : 1 ≤ room ∧ room ≤ 4194304
    · obtain ⟨rm, rfl⟩ : ∃ n : Nat, room = n := ⟨room.toNat, by omega⟩
      go_wp2_with fail
      refine (new_ok rm w1 ⟨by omega, by omega⟩).mono ?_
      rintro e w2 ⟨rfl, hb2, hd2, hs2⟩
      have HB2 := Lib.hid hb2
      have HD2 := Lib.hid hd2
      unfold ptr
      clear hb2 hd2 hs2
      go_wp2_with fail
      refine (rnew_ok rm w2 ⟨by omega, by omega⟩).mono ?_
      rintro e w3 ⟨rfl, hb3, hr3, hs3⟩
      have hboth := BothD.ofNew (w := w) (bel_trans HB1.out HB2.out) HD2.out HB1.out.size hb3 hr3 (Nat.le_refl _)
      obtain ⟨d, hd⟩ : ∃ d, w1.heap.size = d := ⟨_, rfl⟩
      obtain ⟨r, hrr⟩ : ∃ r, w2.heap.size = r := ⟨_, rfl⟩
      rw [hd, hrr] at hboth
      rw [hd, hrr]
      have HBO := Lib.hid hboth
      unfold ptr
      clear hboth hb3 hr3 hs3 hd hrr
      go_wp2_with fail
      go_loopw [41] (fun i wr => ∃ (j : Nat) (S : Dk.St), j ≤ m ∧ i = .int .i64 (j : Int) ∧ Hid (BothD w wr d r S S (fun _ => False)) ∧ S.loose.length ≤ j) (fun i _ => m - (intOf i).toNat)
      case atStart => exact ⟨0, _, Nat.zero_le _, rfl, HBO, Nat.le_refl _⟩
      case round =>
        obtain ⟨j, S, hj, rfl, HS, hLj⟩ := hrel
        by_cases hlt : j < m
        · obtain ⟨x, hx⟩ : ∃ x, l[j]? = some x := ⟨l[j]'(by rw [HM.out]; omega), by simp⟩
          have hrr := HR.out
          obtain ⟨b, o, hae, hblt, r0, r1, r2, r3, r4⟩ := reads5 hrr j x hx
          subst hae
          have hbl := HS.out.bel
          have r0 := (World.cell?_of_block (hbl.block b hblt)).trans r0
          have r1 := (World.cell?_of_block (hbl.block b hblt)).trans r1
          have r2 := (World.cell?_of_block (hbl.block b hblt)).trans r2
          have r3 := (World.cell?_of_block (hbl.block b hblt)).trans r3
          have r4 := (World.cell?_of_block (hbl.block b hblt)).trans r4
          have hjk : (j : Int) < (m : Int) := by omega
          have HN := Lib.hid (bounds_i64 (HI.out x (List.mem_of_getElem? hx)).2.1)
          clear hbl hx hrr
          obtain ⟨xk, xf, xn, xm, xs⟩ := x
          simp only at r0 r1 r2 r3 r4
          have hxn := heap_alloc_new wr (.cells #[.int .i64 xk, .int .i64 xf, .int .i64 xn, .int .i64 xm, .string xs] 42)
          have hS1 := HS.out.below (bel_alloc wr (.cells #[.int .i64 xk, .int .i64 xf, .int .i64 xn, .int .i64 xm, .string xs] 42))
          go_upto_region 12 with fail
          obtain ⟨bo, hbo⟩ : ∃ g, wr.heap.size = g := ⟨_, rfl⟩
          obtain ⟨V, hV⟩ : ∃ V, wr.alloc (.cells #[.int .i64 xk, .int .i64 xf, .int .i64 xn, .int .i64 xm, .string xs] 42) = V := ⟨_, rfl⟩
          rw [hV] at hxn hS1 ⊢
          rw [hbo] at hxn ⊢
          have s0 := cells_at hxn 0 _ rfl
          have s1 := cells_at hxn 1 _ rfl
          have s2 := cells_at hxn 2 _ rfl
          have s3 := cells_at hxn 3 _ rfl
          have s4 := cells_at hxn 4 _ rfl
          simp only [List.getElem_toArray, List.getElem_cons_zero, List.getElem_cons_succ] at s0 s1 s2 s3 s4
          have HS1 := Lib.hid hS1
          obtain ⟨S2, hS2⟩ : ∃ x, stepOp S ⟨xk, xf, xn, xm, xs⟩ = x := ⟨_, rfl⟩
          have hL2 : S2.loose.length ≤ j + 1 := by rw [← hS2]; have := step_len S ⟨xk, xf, xn, xm, xs⟩; omega
          have hdo := does_any (hS1.below (bel_drew V)) xk xf xn xm xs (by omega) (show xn ≤ 9223372036854775807 from HN.out.2)
          rw [hS2] at hdo
          have HDO := Lib.hid hdo
          clear hxn hS1 hV hbo hS2 hdo r0 r1 r2 r3 r4
          refine wp_region_gate [0, 1, 2] 3 _ (by kernel_rfl) (by kernel_rfl) rfl rfl ?_
          change wpYields _ _ _ _ [_, _, _] _
          iterate 3 (refine yields_step (fun K hK => ?_); apply Exists.intro; apply And.intro; (apply yields_at rfl; rintro W' hW; rw [hW]; go_simp; first | done | rfl); go_simp; refine hK _ ?_; clear hK K)
          refine yields_nil ?_
          refine wpP_step rfl (fun K hK => ?_)
          go_simp
          go_at_call 23
          refine HDO.out.mono ?_
          rintro e w5 ⟨rfl, h5⟩
          refine hK _ _ ?_
          clear hK K
          simp only [List.drop_succ_cons, List.drop_zero]
          obtain ⟨la, lc, -, q33, q34⟩ := br_cells h5
          have HON := Lib.hid (bd_on h5)
          have HLO := Lib.hid (bd_loose h5)
          have HLF := Lib.hid (bd_left h5)
          have HRL := Lib.hid (br_left h5)
          have H5 := Lib.hid h5
          obtain ⟨of, hof⟩ : ∃ x, S2.off = x := ⟨_, rfl⟩
          obtain ⟨ll, hll⟩ : ∃ x, S2.loose.length = x := ⟨_, rfl⟩
          obtain ⟨lf, hlf⟩ : ∃ x, Dk.leftOf S2 = x := ⟨_, rfl⟩
          rw [hof] at q34 HON
          rw [hll] at q33 HLO
          rw [hlf] at HLF HRL
          have hL2' := Lib.hid hL2
          clear h5 hof hll hlf hL2
          change wpYields _ _ _ _ [_, _, _, _, _, _, _, _, _, _, _, _, _, _, _, _, _, _, _, _, _, _, _, _, _, _, _] _
          iterate 27 (refine yields_step (fun K hK => ?_); apply Exists.intro; apply And.intro; (first | (apply yields_at rfl; rintro W' hW; rw [hW]; go_simp; first | done | rfl) | (apply yields_by 19 #[.pointer (some ⟨d, 0, none⟩)] rfl; focus (rintro W' hW; rw [hW]; refine ⟨?_, HON.out⟩; go_simp; done)) | (apply yields_by 20 #[.pointer (some ⟨d, 0, none⟩)] rfl; focus (rintro W' hW; rw [hW]; refine ⟨?_, HLO.out⟩; go_simp; done)) | (apply yields_by 14 #[.pointer (some ⟨d, 0, none⟩)] rfl; focus (rintro W' hW; rw [hW]; refine ⟨?_, HLF.out⟩; go_simp; done)) | (apply yields_by 24 #[.pointer (some ⟨r, 0, none⟩)] rfl; focus (rintro W' hW; rw [hW]; refine ⟨?_, HRL.out⟩; go_simp; done))); go_simp; refine hK _ ?_; clear hK K)
          refine yields_nil ?_
          clear q33 q34
          go_wp2_with fail
          go_roundw
          case rel => exact ⟨j + 1, S2, by omega, by go_num, H5, hL2'.out⟩
          case measure => simp [intOf]; omega
        · have hjj : ¬ (j : Int) < (m : Int) := by omega
          have HS2 := HS
          go_wp2_with fail
          go_loopw [77] (fun i wr => ∃ (k : Nat), k ≤ 16 ∧ i = .int .i64 (k : Int) ∧ Hid (BothD w wr d r S S (fun _ => False))) (fun i _ => 16 - (intOf i).toNat)
          case atStart => exact ⟨0, Nat.zero_le _, rfl, HS2⟩
          case round =>
            obtain ⟨k, hk, rfl, HS3⟩ := hrel
            by_cases hlt2 : k < 16
            · have hk16 : (k : Int) < 16 := by omega
              go_wp2_with fail
              refine (bd_read HS3.out k).mono ?_
              rintro e w5 ⟨rfl, hb5⟩
              have H5 := Lib.hid (HS3.out.below hb5)
              clear hb5
              go_wp2_with fail
              refine (br_read H5.out k).mono ?_
              rintro e w6 ⟨rfl, rfl⟩
              obtain ⟨rv, hrv⟩ : ∃ x, (Dk.read S k).1 = x := ⟨_, rfl⟩
              obtain ⟨re, hre⟩ : ∃ x, (Dk.read S k).2 = x := ⟨_, rfl⟩
              rw [hrv, hre]
              clear hrv hre
              go_wp2_with fail
              go_roundw
              case rel => exact ⟨k + 1, by omega, by go_num, H5⟩
              case measure => simp [intOf]; omega
            · obtain rfl : k = 16 := by omega
              go_wp2_with fail
              refine (works_any _).mono ?_
              rintro e w9 ⟨rfl, hb9⟩
              go_wp2_with fail
              go_ret
              exact ⟨rfl, (HS3.out.below hb9).bel⟩
    · go_wp2_with fail
      refine (new_bad room w1 hrm).mono ?_
      rintro e w2 ⟨rfl, rfl⟩
      go_wp2_with fail
      refine (rnew_bad room w1 hrm).mono ?_
      rintro e w3 ⟨rfl, rfl⟩
      go_wp2_with fail
      refine (works_any _).mono ?_
      rintro e w9 ⟨rfl, hb9⟩
      go_wp2_with fail
      go_ret
      exact ⟨rfl, bel_trans HB1.out hb9⟩
  · have HB1 := Lib.hid hb1
    clear hb1
    go_wp2_with fail
    refine (works_any _).mono ?_
    rintro e w9 ⟨rfl, hb9⟩
    go_wp2_with fail
    go_ret
    exact ⟨rfl, bel_trans HB1.out hb9⟩

end Go.Proofs.Ytdnjmihalmhddaa
