/-
  The walk through InputCuts.
-/
import Derived.Test.YtllecjhfbojgcaaInWorks
import Derived.Test.YtllecjhfbojgcaaInGrows
import Derived.Test.YtllecjhfbojgcaaInGet
namespace Go.Proofs.Ytllecjhfbojgcaa
open Go.RowKit
set_option maxRecDepth 20000

def iwm : InSt := ⟨Dk.fresh 4194304, ⟨[], 0⟩, ⟨[], 0⟩, []⟩
theorem iwm_r0 : Dk.read (Dk.fresh 4194304) 0 = (⟨#[]⟩, 0) := by kernel_rfl
theorem iwm_r1 : Dk.read (Dk.fresh 4194304) 1 = (⟨#[]⟩, 0) := by kernel_rfl
theorem iwm_fit : InFit 0 iwm := ⟨Nat.le_refl _, Nat.le_refl _, Nat.zero_le _, Nat.zero_le _, fun x hx => by cases hx⟩

theorem inCnt_sum (l : List InR) (h : ∀ x ∈ l, x.part = 0 ∨ x.part = 1) : inCnt 0 l + inCnt 1 l = l.length := by
  induction l with
  | nil => rfl
  | cons y l ih =>
    have hi := ih (fun x hx => h x (List.mem_cons_of_mem _ hx))
    have hy := h y (List.mem_cons_self ..)
    unfold inCnt at hi ⊢
    rcases hy with hy | hy
    · simp only [List.filter_cons, hy, List.length_cons]
      simp
      omega
    · simp only [List.filter_cons, hy, List.length_cons]
      simp
      omega

set_option maxHeartbeats 8000000 in
theorem inputCuts_walk (v : Value) (l : List InR) (w : World) (hr : Reads w v l.length (inCells l)) (hi : ∀ r ∈ l, Cl.In64 r.key ∧ Cl.In64 r.val) :
    Calls Try.prog 4 #[v] w fun e w' => e = .returned (.bool true) ∧ Below w.heap.size w w' := by
  have hlen := hr.lenLe
  unfold maxLen at hlen
  have HR := Lib.hid hr
  have HI := Lib.hid hi
  obtain ⟨a, c, rfl⟩ := hr.shape
  clear hr hi
  by_cases hbig : 200 < l.length
  · have hb1 : (200 : Int) < (l.length : Int) := by omega
    go_enter Try.func4, Try.ntmps4
    go_wp2_with fail
    refine (inworks_any _).mono ?_
    rintro e w1 ⟨rfl, hb⟩
    go_wp2_with fail
    go_ret
    exact ⟨rfl, hb⟩
  · have hb1 : ¬ (200 : Int) < (l.length : Int) := by omega
    obtain ⟨m, hm⟩ : ∃ m, l.length = m := ⟨_, rfl⟩
    have HM := Lib.hid hm
    rw [hm] at hb1 hlen hbig
    rw [hm]
    go_enter Try.func4, Try.ntmps4
    go_wp2_with fail
    refine (live_new 4194304 w (by decide)).mono ?_
    rintro e w1 ⟨rfl, h⟩
    have H := Lib.hid (show Live w w1 w.heap.size (Dk.fresh 4194304) from h)
    clear h
    unfold ptr
    go_wp2_with fail
    refine (in_open w1 w.heap.size w _ H.out iwm_r0 iwm_r1).mono ?_
    rintro e w2 ⟨n, l0, l1, rfl, h⟩
    have HN := Lib.hid (show InLive w w2 n w.heap.size l0 l1 _ iwm from h)
    clear h
    unfold ptr
    go_wp2_with fail
    go_loopw [32] (fun i wr => ∃ (j : Nat) (lv : Value) (S : InSt), j ≤ m ∧ i = .int .i64 (j : Int) ∧ Hid (InLive w wr n w.heap.size l0 l1 lv S) ∧ Hid (InFit j S)) (fun i _ => m - (intOf i).toNat)
    case atStart => exact ⟨0, _, _, Nat.zero_le _, rfl, HN, Lib.hid iwm_fit⟩
    case round =>
      obtain ⟨j, lv, S, hj, rfl, HS, HF⟩ := hrel
      by_cases hlt : j < m
      · obtain ⟨x, hx⟩ : ∃ x, l[j]? = some x := ⟨l[j]'(by rw [HM.out]; omega), by simp⟩
        obtain ⟨b, o, cap, hv, hcap, hcm, hblt, hcells⟩ := HR.out.some (by rw [HM.out]; omega)
        cases hv
        obtain ⟨i0, i1, i2⟩ := inCells_at l j x hx
        have hbl := HS.out.bel
        have r0 := (World.cell?_of_block (hbl.block b hblt)).trans (hcells _ _ i0)
        have r1 := (World.cell?_of_block (hbl.block b hblt)).trans (hcells _ _ i1)
        have r2 := (World.cell?_of_block (hbl.block b hblt)).trans (hcells _ _ i2)
        rw [← Nat.add_assoc] at r1 r2
        have hjk : (j : Int) < (m : Int) := by omega
        have HX := Lib.hid (HI.out x (List.mem_of_getElem? hx))
        clear i0 i1 i2 hbl hx hcells
        obtain ⟨p, kk, vv⟩ := x
        simp only at r0 r1 r2
        go_wp2_with fail
        refine (in_add (x := ⟨p, kk, vv⟩) (HS.out.below (bel_alloc wr (.cells #[.int .i64 p, .int .i64 kk, .int .i64 vv] 32))) HF.out (by omega) HX.out.1 HX.out.2).mono ?_
        rintro e w3 ⟨lv', rfl, h3⟩
        have H3 := Lib.hid h3
        have H4 := Lib.hid (HF.out.add ⟨p, kk, vv⟩)
        clear h3
        go_wp2_with fail
        go_roundw
        case rel => exact ⟨j + 1, _, _, by omega, by go_num, H3, H4⟩
        case measure => simp [intOf]; omega
      · have hje : j = m := by omega
        subst hje
        have hjj : ¬ (j : Int) < (j : Int) := by omega
        clear hlt
        go_wp2_with fail
        have HS2 := Lib.hid (HS.out.below (bel_alloc wr (.cells #[.int .i64 0, .int .i64 0] 3)))
        have HZ := Lib.hid (heap_alloc_new wr (.cells #[.int .i64 0, .int .i64 0] 3))
        refine (in_len HS2.out).mono ?_
        rintro e w3 ⟨rfl, rfl⟩
        obtain ⟨L, hL⟩ : ∃ L, S.rs.length = L := ⟨_, rfl⟩
        have hLj := HF.out.n
        rw [hL] at hLj ⊢
        have HL := Lib.hid hL
        obtain ⟨V, hV⟩ : ∃ V, wr.alloc (.cells #[.int .i64 0, .int .i64 0] 3) = V := ⟨_, rfl⟩
        rw [hV] at HS2 HZ ⊢
        clear hL hV
        obtain ⟨g0, hg0⟩ : ∃ g, wr.heap.size = g := ⟨_, rfl⟩
        rw [hg0] at HZ ⊢
        clear hg0
        go_wp2_with fail
        go_loopw [9, 43] (fun was i wr => ∃ (q g : Nat), q ≤ L ∧ i = .int .i64 (q : Int) ∧ was = .slice (some ⟨g, 0, none⟩) 2 2 ∧ Hid (InLive w wr n w.heap.size l0 l1 lv S) ∧ Hid (wr.heap[g]? = some (.cells #[.int .i64 (inCnt 0 (S.rs.take q) : Int), .int .i64 (inCnt 1 (S.rs.take q) : Int)] 3))) (fun _ i _ => L - (intOf i).toNat)
        case atStart => exact ⟨0, g0, Nat.zero_le _, rfl, rfl, HS2, HZ⟩
        case round =>
          obtain ⟨q, g, hq, rfl, rfl, HI2, HG⟩ := hrel
          by_cases hlt : q < L
          · obtain ⟨x, hx⟩ : ∃ x, S.rs[q]? = some x := ⟨S.rs[q]'(by rw [HL.out]; omega), by simp⟩
            have hql : (q : Int) < (L : Int) := by omega
            have HX := Lib.hid hx
            have hxp := HF.out.p x (List.mem_of_getElem? hx)
            have htl : (S.rs.take q).length = q := by rw [List.length_take, HL.out]; omega
            have hsum := inCnt_sum (S.rs.take q) (fun y hy => HF.out.p y (List.mem_of_mem_take hy))
            rw [htl] at hsum
            have ht1 : S.rs.take (q + 1) = S.rs.take q ++ [x] := by rw [List.take_add_one, hx]; rfl
            have c0 := inCnt_snoc 0 (S.rs.take q) x
            have c1 := inCnt_snoc 1 (S.rs.take q) x
            rw [← ht1] at c0 c1
            have hglt : g < wr.heap.size := (Array.getElem?_eq_some_iff.1 HG.out).1
            obtain ⟨p, kk, vv⟩ := x
            obtain ⟨A, hA⟩ : ∃ A, inCnt 0 (S.rs.take q) = A := ⟨_, rfl⟩
            obtain ⟨B, hB⟩ : ∃ B, inCnt 1 (S.rs.take q) = B := ⟨_, rfl⟩
            rw [hA] at HG hsum c0
            rw [hB] at HG hsum c1
            obtain ⟨A', hA'⟩ : ∃ A, inCnt 0 (S.rs.take (q + 1)) = A := ⟨_, rfl⟩
            obtain ⟨B', hB'⟩ : ∃ B, inCnt 1 (S.rs.take (q + 1)) = B := ⟨_, rfl⟩
            rw [hA'] at c0
            rw [hB'] at c1
            have HA := Lib.hid hA'
            have HB := Lib.hid hB'
            have HC0 := Lib.hid c0
            have HC1 := Lib.hid c1
            clear hA hB hA' hB' ht1 htl hx c0 c1
            go_wp2_with fail
            have hat := at_good HI2.out q (by rw [HL.out]; omega) ⟨p, kk, vv⟩ HX.out
            unfold InR.val' at hat
            dsimp only at hat
            refine hat.mono ?_
            clear hat
            rintro e w4 ⟨rfl, hb4⟩
            have HB4 := Lib.hid hb4
            clear hb4
            go_wp2_with fail
            have hlv : (q : Int) + 1 = ((q + 1 : Nat) : Int) := by omega
            refine (show Calls Try.prog 17 #[ptr n 0, .int .i64 ((q : Int) + 1)] _ _ from hlv ▸ (cuts_good (HI2.out.below (bel_trans HB4.out (bel_alloc w4 (.cells #[.int .i64 p, .int .i64 kk, .int .i64 vv] 32)))) (q + 1) (by rw [HL.out]; omega) (by rw [HL.out]; omega) (by rw [HL.out]; omega) HF.out.p)).mono ?_
            rintro e w5 ⟨g', rfl, hge', hb5, hg5⟩
            have hH := (HI2.out.below (bel_trans HB4.out (bel_alloc w4 (.cells #[.int .i64 p, .int .i64 kk, .int .i64 vv] 32)))).below hb5
            rw [HA.out, HB.out] at hg5
            have hx5 := (hb5.block _ (by simp)).trans (heap_alloc_new w4 (.cells #[.int .i64 p, .int .i64 kk, .int .i64 vv] 32))
            have hgs := HB4.out.size
            have hg4 := (hb5.block g (by simp; omega)).trans ((Below.heap_alloc w4 (.cells #[.int .i64 p, .int .i64 kk, .int .i64 vv] 32) g (by omega)).trans ((HB4.out.block g hglt).trans HG.out))
            have x0 := cells_at hx5 0 _ rfl
            have y0 := cells_at hg5 0 _ rfl
            have y1 := cells_at hg5 1 _ rfl
            have z0 := cells_at hg4 0 _ rfl
            have z1 := cells_at hg4 1 _ rfl
            simp only [List.getElem_toArray, List.getElem_cons_zero, List.getElem_cons_succ] at x0 y0 y1 z0 z1
            have H5 := Lib.hid hH
            have HG5 := Lib.hid hg5
            clear hH hg5 hx5 hg4 hb5 hlv
            rcases hxp with hxp | hxp
            · have hxp : p = 0 := hxp
              subst hxp
              have eA : A' = A + 1 := by simpa using HC0.out
              have eB : B' = B := by simpa using HC1.out
              have e1 : IntKind.i64.wrap ((A' : Int) + (B' : Int)) = (A' : Int) + (B' : Int) := IntWalk.i64_in _ (by omega)
              have e2 : IntKind.i64.wrap ((A : Int) + 1) = (A : Int) + 1 := IntWalk.i64_in _ (by omega)
              have e3 : ((A' : Int) + (B' : Int) != (q : Int) + 1) = false := by simp; omega
              have e4 : ((A' : Int) != (A : Int) + 1) = false := by simp; omega
              clear eA eB
              go_wp2_with fail
              go_quiet (fail)
              go_wp2_with fail
              go_roundw
              case rel => exact ⟨q + 1, g', by omega, by go_num, rfl, Lib.hid (by first | exact H5.out | exact H5.out.below (bel_drewN _ _)), Lib.hid (by rw [HA.out, HB.out]; exact HG5.out)⟩
              case measure => simp [intOf]; omega
            · have hxp : p = 1 := hxp
              subst hxp
              have eA : A' = A := by simpa using HC0.out
              have eB : B' = B + 1 := by simpa using HC1.out
              have e1 : IntKind.i64.wrap ((A' : Int) + (B' : Int)) = (A' : Int) + (B' : Int) := IntWalk.i64_in _ (by omega)
              have e2 : IntKind.i64.wrap ((B : Int) + 1) = (B : Int) + 1 := IntWalk.i64_in _ (by omega)
              have e3 : ((A' : Int) + (B' : Int) != (q : Int) + 1) = false := by simp; omega
              have e4 : ((B' : Int) != (B : Int) + 1) = false := by simp; omega
              clear eA eB
              go_wp2_with fail
              go_quiet (fail)
              go_wp2_with fail
              go_roundw
              case rel => exact ⟨q + 1, g', by omega, by go_num, rfl, Lib.hid (by first | exact H5.out | exact H5.out.below (bel_drewN _ _)), Lib.hid (by rw [HA.out, HB.out]; exact HG5.out)⟩
              case measure => simp [intOf]; omega
          · have hqe : q = L := by omega
            subst hqe
            have hjj : ¬ (q : Int) < (q : Int) := by omega
            clear hlt
            go_wp2_with fail
            refine (inworks_any _).mono ?_
            rintro e w5 ⟨rfl, hb⟩
            have H := Lib.hid (HI2.out.below hb)
            clear hb
            go_wp2_with fail
            go_ret
            exact ⟨rfl, H.out.bel⟩

end Go.Proofs.Ytllecjhfbojgcaa
