/-
  The output's read walked, for a record that was put.
-/
import Derived.Test.YtllecjhfbojgcaaOutTell
import Derived.Deep.Onto
namespace Go.Proofs.Ytllecjhfbojgcaa
open Go.RowKit
set_option maxRecDepth 20000

theorem o_set3 {w : World} {b : Nat} {x y z : Value} {T : TypeId} (h : w.heap[b]? = some (.cells #[x, y, z] T)) (x' y' z' : Value) :
    (((w.setCell ⟨b, 0, none⟩ x').setCell ⟨b, 1, none⟩ y').setCell ⟨b, 2, none⟩ z').heap[b]? = some (.cells #[x', y', z'] T) := by
  have h1 := cells_set (cells_set (cells_set h 0 x') 1 y') 2 z'
  rw [h1]; simp

set_option maxHeartbeats 16000000 in
set_option maxRecDepth 100000 in
theorem oread_any (w : World) (r : ORec) (hg : OGood r) (h1 : 1 ≤ r.n) (h2 : r.kind = 2 → r.l = []) (kz : Int) (hkz : (r.kind.toNat : Int) = kz) :
    Calls Try.prog 69 #[.int .u8 kz, .string (entO r).text] w fun e w' => ∃ v, e = .returned (.tuple #[.agg #[.int .u8 kz, .int .i64 r.n, v], .bool true]) ∧ w'.ownsRow w.heap.size 84 2 v r.l.length (outCells r.l) ∧ Below w.heap.size w w' := by
  obtain ⟨i0, hi0, hz0, hz1, hz2⟩ := info_parts infoOut
  have hts : (entO r).text.size ≤ 1000000 := by have := entO_size r; have := hg.len; omega
  have hnn : Cl.nums (entO r).text.data.toList = (r.n :: flatO r.l, 0) := by
    rw [← Cl.nums_put (r.n :: flatO r.l) hg.flat]
    unfold entO
    simp
  obtain ⟨T, hT⟩ : ∃ T, (entO r).text = T := ⟨_, rfl⟩
  rw [hT] at hts hnn ⊢
  have HNS := Lib.hid (fun X => numbers_says T _ _ X hts hnn)
  have hlen := hg.len
  obtain ⟨m, hm⟩ : ∃ m, r.l.length = m := ⟨_, rfl⟩
  have hk : (kz = 1) ∨ (kz = 2 ∧ m = 0) := by
    rcases hg.kind with e | e
    · left; rw [← hkz, e]; decide
    · right; exact ⟨by rw [← hkz, e]; decide, by rw [← hm, h2 e]; rfl⟩
  have HM := Lib.hid hm
  rw [hm] at hlen ⊢
  obtain ⟨n, hn⟩ : ∃ n, r.n = n := ⟨_, rfl⟩
  obtain ⟨l, hl⟩ : ∃ l, r.l = l := ⟨_, rfl⟩
  rw [hn] at HNS h1 ⊢
  rw [hl] at HNS HM ⊢
  obtain ⟨N, hN⟩ : ∃ N, (n :: flatO l).length = N := ⟨_, rfl⟩
  have hNm : N = 1 + 2 * m := by rw [← hN, List.length_cons, flatO_len, HM.out]; omega
  rw [hN] at HNS
  have HNM := Lib.hid hNm
  have e1 : ¬ n < 1 := by omega
  have e3 : (N : Int).tmod 2 = 1 := by
    show ((N % 2 : Nat) : Int) = 1
    rw [hNm]; omega
  have eN : ¬ N = 0 := by omega
  clear hts hnn hT hm hkz hg hn hl hN hNm h2
  have HK := Lib.hid hk
  clear hk
  go_enter Try.func69, Try.ntmps69
  go_wp2_with fail
  refine (HNS.out _).mono ?_
  rintro e w2 ⟨v, rfl, hrv, hb2⟩
  have hl0 : 0 < N := by omega
  obtain ⟨vb, vo, vc, rfl, hvc, hvm, hvb, hvcell⟩ := hrv.some hl0
  have x0 := hvcell 0 _ rfl
  rw [Nat.add_zero] at x0
  have HX := Lib.hid x0
  rcases HK.out with rfl | ⟨rfl, hm0⟩
  · have hbox4 := (hb2.block w.heap.size (by simp)).trans (heap_alloc_new w _)
    have hbw2 := bel_trans (bel_alloc w (.cells #[.int .u8 0, .int .i64 0, .slice none 0 0] 142)) hb2
    obtain ⟨W, hW⟩ : ∃ W, w2.alloc (.cells #[.int .u8 1, .int .i64 n, .slice none 0 0] 142) = W := ⟨_, rfl⟩
    have hb2W : Below w2.heap.size w2 W := by rw [← hW]; exact bel_alloc _ _
    have hbox8 : W.heap[w2.heap.size]? = some (.cells #[.int .u8 1, .int .i64 n, .slice none 0 0] 142) := by rw [← hW]; exact heap_alloc_new w2 _
    have hgl4 := (Array.getElem?_eq_some_iff.1 hbox4).1
    have HRV := Lib.hid hrv
    have HB4 := Lib.hid hbox4
    have HB8 := Lib.hid hbox8
    have HBW2 := Lib.hid hbw2
    have HB2W := Lib.hid hb2W
    have HW := Lib.hid hW
    obtain ⟨g, hgg⟩ : ∃ g, w2.heap.size = g := ⟨_, rfl⟩
    have HGG := Lib.hid hgg
    rw [hgg] at HB8 hgl4
    clear hvcell hrv hb2 hbox4 hbox8 hbw2 hb2W hW hgg
    go_wp2_with fail
    rw [HW.out]
    try rw [HGG.out]
    go_loopw [9] (fun i wr => ∃ (q : Nat) (lv : Value), q ≤ m ∧ i = .int .i64 ((1 + 2 * q : Nat) : Int) ∧ Hid (wr.heap[g]? = some (.cells #[.int .u8 1, .int .i64 n, lv] 142)) ∧ Hid (wr.ownsRow (g + 1) 84 2 lv q (outCells (l.take q))) ∧ Hid (Below w2.heap.size w2 wr) ∧ g < wr.heap.size) (fun i _ => (2 * m + 1) - (intOf i).toNat)
    case atStart => exact ⟨0, .slice none 0 0, Nat.zero_le _, rfl, HB8, Lib.hid (World.ownsRow_nil _ _ _ _), HB2W, (Array.getElem?_eq_some_iff.1 HB8.out).1⟩
    case round =>
      obtain ⟨q, lv, hq, rfl, HB9, HO9, HBL, hgl⟩ := hrel
      by_cases hlt : q < m
      · obtain ⟨y, hy⟩ : ∃ y, l[q]? = some y := ⟨l[q]'(by rw [HM.out]; omega), by simp⟩
        obtain ⟨c0, c1⟩ := flatO_at l q y hy
        have htk : outCells (l.take (q + 1)) = outCells (l.take q) ++ [.int .i64 y.key, .int .i64 y.val] := by
          rw [List.take_add_one, hy]
          show outCells (l.take q ++ [y]) = _
          rw [outCells_app]
          rfl
        have HTK := Lib.hid htk
        obtain ⟨b', o', cap, hv, hcap, hcm, hblt, hcells⟩ := HRV.out.some (by omega)
        cases hv
        have g1 : (ints (n :: flatO l))[1 + 2 * q]? = some (.int .i64 y.key) := by
          unfold ints
          rw [List.getElem?_map, show 1 + 2 * q = q * 2 + 1 by omega, List.getElem?_cons_succ, c0]
          rfl
        have g2 : (ints (n :: flatO l))[1 + 2 * q + 1]? = some (.int .i64 y.val) := by
          unfold ints
          rw [List.getElem?_map, show 1 + 2 * q + 1 = (q * 2 + 1) + 1 by omega, List.getElem?_cons_succ, c1]
          rfl
        have r1 := (World.cell?_of_block (HBL.out.block vb hblt)).trans (hcells _ _ g1)
        have r2 := (World.cell?_of_block (HBL.out.block vb hblt)).trans (hcells _ _ g2)
        have hqN : ((1 + 2 * q : Nat) : Int) < (N : Int) := by have := HNM.out; omega
        have hqN2 : ((1 + 2 * q : Nat) : Int) + 1 < (N : Int) := by have := HNM.out; omega
        have hqs : q ≤ 1000 := by omega
        obtain ⟨qi, hqi⟩ : ∃ qi, 1 + 2 * q = qi := ⟨_, rfl⟩
        have HQI := Lib.hid hqi
        rw [hqi] at r1 r2 hqN hqN2 ⊢
        clear hy c0 c1 htk hcells g1 g2 hqi
        obtain ⟨yk, yv⟩ := y
        simp only at r1 r2 HTK
        obtain ⟨la, lc, rfl⟩ := (Reads.own HO9.out).shape
        have hqi2 : qi ≤ 2001 := by have := HQI.out; omega
        have hw1 : IntKind.i64.wrap ((qi : Int) + 1) = (qi : Int) + 1 := IntWalk.i64_in _ (by omega)
        have hw0 : (0 : Int) ≤ (qi : Int) + 1 := by omega
        have hgn : w2.heap.size = g := HGG.out
        have HD := Lib.hid (fun (W' : World) (h1 : W'.heap[g]? = wr.heap[g]?) (h2 : W'.heap[vb]? = wr.heap[vb]?) => And.intro ((World.cell?_of_block (a := ⟨g, 2, none⟩) h1).trans (cells_at HB9.out 2 _ rfl)) (And.intro ((World.cell?_of_block (a := ⟨vb, vo + qi, none⟩) h2).trans r1) ((World.cell?_of_block (a := ⟨vb, vo + (qi + 1), none⟩) h2).trans r2)))
        simp only [List.getElem_toArray, List.getElem_cons_zero, List.getElem_cons_succ] at HD
        have hvbr : vb < wr.heap.size := Nat.lt_of_lt_of_le hblt HBL.out.size
        have hvbg : vb < g := by rw [← hgn]; exact hblt
        have HVBG := Lib.hid hvbg
        have HGN := Lib.hid hgn
        have HHB := Lib.hid hblt
        clear r1 r2 hgn hvbg hblt
        go_upto_region 8 with fail
        refine wp_region_free [0, 1, 2, 3, 4, 5, 6, 7, 8, 9, 10, 11] 14 (fun W' => W'.heap[g]? = wr.heap[g]? ∧ W'.heap[vb]? = wr.heap[vb]?) (by kernel_rfl) (by kernel_rfl) ?_
        change wpYields _ _ _ _ [_, _, _, _, _, _, _, _, _, _, _, _] _
        iterate 12 (refine yields_step (fun K hK => ?_); apply Exists.intro; apply And.intro; (apply yields_at rfl; rintro W' ⟨hb1, hb2⟩; obtain ⟨z0, z1, z2⟩ := HD.out W' hb1 hb2; have z3 := z2; rw [← Nat.add_assoc] at z3; go_simp; first | done | rfl); go_simp; refine hK _ ?_; clear hK K)
        refine yields_nil ?_
        refine anyP_one (k := 12) (by kernel_rfl) (by decide) rfl rfl ⟨rfl, rfl⟩ ?_
        refine wpP_step rfl (fun K hK => ?_)
        go_simp
        refine hK _ _ ?_
        clear hK K
        have hnews := heap_alloc_new wr (.cells #[.int .i64 yk, .int .i64 yv] 84)
        have hbV := bel_trans (bel_alloc wr (.cells #[.int .i64 yk, .int .i64 yv] 84)) (bel_drew _)
        have hone : ∀ u ∈ [Value.int .i64 yk, .int .i64 yv], u.oneCell' = true := by simp [Value.oneCell']
        refine anyP_one (k := 13) (by kernel_rfl) (by decide) rfl rfl ⟨hbV.block g hgl, hbV.block vb hvbr⟩ ?_
        refine wpP_step rfl (fun K hK => ?_)
        refine step_append_lies _ rfl _ _ 73 rfl (g + 1) 84 i0 _ 2 16 Try.underlying73 hi0 hz0 hz1 hz2 rfl (by omega) (.slice la q lc) q (outCells (l.take q)) (by rfl) (own_below HO9.out hbV) ⟨wr.heap.size, 0, none⟩ 1 1 [.int .i64 yk, .int .i64 yv] rfl rfl (World.news_of_block (cs := #[.int .i64 yk, .int .i64 yv]) (t := 84) (fr := (0, 0)) hnews) hone (by omega) (by unfold maxLen; omega) (by omega) (by have := hbV.size; omega) _ rfl ?_
        intro gg cap w9 hown hgrow hat hltg
        refine hK _ _ ?_
        clear hK K
        have hgne : some g ≠ (Value.slice la q lc).ownBlock := fun e => by
          have := (HO9.out.lt g e.symm).1; omega
        have hvne : some vb ≠ (Value.slice la q lc).ownBlock := fun e => by
          have := (HO9.out.lt vb e.symm).1; have := HVBG.out; omega
        have hg9 : w9.heap[g]? = wr.heap[g]? := (hgrow.block g (by have := hbV.size; omega) hgne).trans (hbV.block g hgl)
        have hv9 : w9.heap[vb]? = wr.heap[vb]? := (hgrow.block vb (by have := hbV.size; omega) hvne).trans (hbV.block vb hvbr)
        refine anyP_leaf ⟨hg9, hv9⟩ (by kernel_rfl) ?_
        simp only [List.drop_succ_cons, List.drop_zero]
        have y := hg9.trans HB9.out
        have yf := cells_free y 2
        have y2 := cells_at y 2 _ rfl
        simp only [List.getElem_toArray, List.getElem_cons_zero, List.getElem_cons_succ] at y2
        have hb9 : Below w2.heap.size w2 w9 := by
          have h5 := (HBL.out.trans (hbV.mono HBL.out.size)).grown hgrow (Nat.le_trans HBL.out.size hbV.size) (fun k hk => by have := (HO9.out.lt k hk).1; have := HGN.out; omega)
          exact h5
        have HN1 := Lib.hid (show (w9.setCell ⟨g, 2, none⟩ (.slice (some ⟨gg, 0, none⟩) (q + 1) cap)).heap[g]? = some (.cells #[.int .u8 1, .int .i64 n, .slice (some ⟨gg, 0, none⟩) (q + 1) cap] 142) by rw [cells_set y]; rfl)
        have HN2 := Lib.hid (show (w9.setCell ⟨g, 2, none⟩ (.slice (some ⟨gg, 0, none⟩) (q + 1) cap)).ownsRow (g + 1) 84 2 (.slice (some ⟨gg, 0, none⟩) (q + 1) cap) (q + 1) (outCells (l.take (q + 1))) by rw [HTK.out]; exact ownsRow_setCell_below hown (by show g < g + 1; omega) _)
        have HN3 := Lib.hid (hb9.setCell (p := ⟨g, 2, none⟩) (show w2.heap.size ≤ g by have := HGN.out; omega) (.slice (some ⟨gg, 0, none⟩) (q + 1) cap))
        have hsz : g < (w9.setCell ⟨g, 2, none⟩ (.slice (some ⟨gg, 0, none⟩) (q + 1) cap)).heap.size := (Array.getElem?_eq_some_iff.1 HN1.out).1
        have HSZ := Lib.hid hsz
        clear hnews hbV hone hown hgrow hat hltg hgne hvne hg9 hv9 y hb9 hsz
        go_wp2_with fail
        go_roundw
        case rel => exact ⟨q + 1, .slice (some ⟨gg, 0, none⟩) (q + 1) cap, by omega, by rw [← HQI.out]; go_num, HN1, HN2, HN3, HSZ.out⟩
        case measure => have := HQI.out; simp [intOf]; omega
      · have hqe : q = m := by omega
        subst hqe
        have hqN : ¬ ((1 + 2 * q : Nat) : Int) < (N : Int) := by have := HNM.out; omega
        have hall : l.take q = l := List.take_of_length_le (by rw [HM.out]; exact Nat.le_refl _)
        rw [hall] at HO9
        obtain ⟨la, lc, rfl⟩ := (Reads.own HO9.out).shape
        have d0 := cells_at HB9.out 0 _ rfl
        have d1 := cells_at HB9.out 1 _ rfl
        have d2 := cells_at HB9.out 2 _ rfl
        have hb4 := (HBL.out.block w.heap.size (by rw [HGG.out]; exact hgl4)).trans HB4.out
        have e0 := cells_at hb4 0 _ rfl
        have e1' := cells_at hb4 1 _ rfl
        have e2 := cells_at hb4 2 _ rfl
        have f0 := cells_free hb4 0
        have f1 := cells_free hb4 1
        have f2 := cells_free hb4 2
        simp only [List.getElem_toArray, List.getElem_cons_zero, List.getElem_cons_succ] at d0 d1 d2 e0 e1' e2
        have HBF := Lib.hid hb4
        obtain ⟨qi, hqi⟩ : ∃ qi, 1 + 2 * q = qi := ⟨_, rfl⟩
        rw [hqi] at hqN ⊢
        obtain ⟨X, hX⟩ : ∃ X, ((wr.setCell ⟨w.heap.size, 0, none⟩ (.int .u8 1)).setCell ⟨w.heap.size, 1, none⟩ (.int .i64 n)).setCell ⟨w.heap.size, 2, none⟩ (.slice la q lc) = X := ⟨_, rfl⟩
        have hXb : X.heap[w.heap.size]? = some (.cells #[.int .u8 1, .int .i64 n, .slice la q lc] 142) := by rw [← hX]; exact o_set3 HBF.out _ _ _
        have q0 := cells_at hXb 0 _ rfl
        have q1 := cells_at hXb 1 _ rfl
        have q2 := cells_at hXb 2 _ rfl
        simp only [List.getElem_toArray, List.getElem_cons_zero, List.getElem_cons_succ] at q0 q1 q2
        have hgw : w.heap.size < g + 1 := by omega
        have HXO := Lib.hid (show X.ownsRow w.heap.size 84 2 (.slice la q lc) q (outCells l) by
          rw [← hX]
          have s1 := ownsRow_setCell_below (a := ⟨w.heap.size, 0, none⟩) HO9.out hgw (.int .u8 1)
          have s2 := ownsRow_setCell_below (a := ⟨w.heap.size, 1, none⟩) s1 hgw (.int .i64 n)
          have s3 := ownsRow_setCell_below (a := ⟨w.heap.size, 2, none⟩) s2 hgw (.slice la q lc)
          exact World.ownsRow.mono s3 (by omega))
        have HXB := Lib.hid (show Below w.heap.size w X by
          rw [← hX]
          exact (((bel_trans HBW2.out HBL.out).setCell (p := ⟨w.heap.size, 0, none⟩) (Nat.le_refl _) _).setCell (p := ⟨w.heap.size, 1, none⟩) (Nat.le_refl _) _).setCell (p := ⟨w.heap.size, 2, none⟩) (Nat.le_refl _) _)
        have HXX := Lib.hid hX
        clear hall hb4 hlt hqi hX hXb hgw
        go_wp2_with fail
        rw [HXX.out]
        exact bodyPost_ret (v := .tuple #[.agg #[.int .u8 1, .int .i64 n, .slice la q lc], .bool true]) (by simp [results, Try.results69, go_sem, q0, q1, q2]) rfl ⟨_, rfl, HXO.out, HXB.out⟩
  · have HM0 := Lib.hid hm0
    have eN3 : ((N : Int) != 1) = false := by have := HNM.out; simp; omega
    clear hm0
    have hbox4 := (hb2.block w.heap.size (by simp)).trans (heap_alloc_new w _)
    have hbw2 := bel_trans (bel_alloc w (.cells #[.int .u8 0, .int .i64 0, .slice none 0 0] 142)) hb2
    obtain ⟨W, hW⟩ : ∃ W, w2.alloc (.cells #[.int .u8 2, .int .i64 n, .slice none 0 0] 142) = W := ⟨_, rfl⟩
    have hb2W : Below w2.heap.size w2 W := by rw [← hW]; exact bel_alloc _ _
    have hbox8 : W.heap[w2.heap.size]? = some (.cells #[.int .u8 2, .int .i64 n, .slice none 0 0] 142) := by rw [← hW]; exact heap_alloc_new w2 _
    have hgl4 := (Array.getElem?_eq_some_iff.1 hbox4).1
    have HRV := Lib.hid hrv
    have HB4 := Lib.hid hbox4
    have HB8 := Lib.hid hbox8
    have HBW2 := Lib.hid hbw2
    have HB2W := Lib.hid hb2W
    have HW := Lib.hid hW
    obtain ⟨g, hgg⟩ : ∃ g, w2.heap.size = g := ⟨_, rfl⟩
    have HGG := Lib.hid hgg
    rw [hgg] at HB8 hgl4
    clear hvcell hrv hb2 hbox4 hbox8 hbw2 hb2W hW hgg
    go_wp2_with fail
    rw [HW.out]
    try rw [HGG.out]
    go_loopw [9] (fun i wr => ∃ (q : Nat) (lv : Value), q ≤ m ∧ i = .int .i64 ((1 + 2 * q : Nat) : Int) ∧ Hid (wr.heap[g]? = some (.cells #[.int .u8 2, .int .i64 n, lv] 142)) ∧ Hid (wr.ownsRow (g + 1) 84 2 lv q (outCells (l.take q))) ∧ Hid (Below w2.heap.size w2 wr) ∧ g < wr.heap.size) (fun i _ => (2 * m + 1) - (intOf i).toNat)
    case atStart => exact ⟨0, .slice none 0 0, Nat.zero_le _, rfl, HB8, Lib.hid (World.ownsRow_nil _ _ _ _), HB2W, (Array.getElem?_eq_some_iff.1 HB8.out).1⟩
    case round =>
      obtain ⟨q, lv, hq, rfl, HB9, HO9, HBL, hgl⟩ := hrel
      by_cases hlt : q < m
      · obtain ⟨y, hy⟩ : ∃ y, l[q]? = some y := ⟨l[q]'(by rw [HM.out]; omega), by simp⟩
        obtain ⟨c0, c1⟩ := flatO_at l q y hy
        have htk : outCells (l.take (q + 1)) = outCells (l.take q) ++ [.int .i64 y.key, .int .i64 y.val] := by
          rw [List.take_add_one, hy]
          show outCells (l.take q ++ [y]) = _
          rw [outCells_app]
          rfl
        have HTK := Lib.hid htk
        obtain ⟨b', o', cap, hv, hcap, hcm, hblt, hcells⟩ := HRV.out.some (by omega)
        cases hv
        have g1 : (ints (n :: flatO l))[1 + 2 * q]? = some (.int .i64 y.key) := by
          unfold ints
          rw [List.getElem?_map, show 1 + 2 * q = q * 2 + 1 by omega, List.getElem?_cons_succ, c0]
          rfl
        have g2 : (ints (n :: flatO l))[1 + 2 * q + 1]? = some (.int .i64 y.val) := by
          unfold ints
          rw [List.getElem?_map, show 1 + 2 * q + 1 = (q * 2 + 1) + 1 by omega, List.getElem?_cons_succ, c1]
          rfl
        have r1 := (World.cell?_of_block (HBL.out.block vb hblt)).trans (hcells _ _ g1)
        have r2 := (World.cell?_of_block (HBL.out.block vb hblt)).trans (hcells _ _ g2)
        have hqN : ((1 + 2 * q : Nat) : Int) < (N : Int) := by have := HNM.out; omega
        have hqN2 : ((1 + 2 * q : Nat) : Int) + 1 < (N : Int) := by have := HNM.out; omega
        have hqs : q ≤ 1000 := by omega
        obtain ⟨qi, hqi⟩ : ∃ qi, 1 + 2 * q = qi := ⟨_, rfl⟩
        have HQI := Lib.hid hqi
        rw [hqi] at r1 r2 hqN hqN2 ⊢
        clear hy c0 c1 htk hcells g1 g2 hqi
        obtain ⟨yk, yv⟩ := y
        simp only at r1 r2 HTK
        obtain ⟨la, lc, rfl⟩ := (Reads.own HO9.out).shape
        have hqi2 : qi ≤ 2001 := by have := HQI.out; omega
        have hw1 : IntKind.i64.wrap ((qi : Int) + 1) = (qi : Int) + 1 := IntWalk.i64_in _ (by omega)
        have hw0 : (0 : Int) ≤ (qi : Int) + 1 := by omega
        have hgn : w2.heap.size = g := HGG.out
        have HD := Lib.hid (fun (W' : World) (h1 : W'.heap[g]? = wr.heap[g]?) (h2 : W'.heap[vb]? = wr.heap[vb]?) => And.intro ((World.cell?_of_block (a := ⟨g, 2, none⟩) h1).trans (cells_at HB9.out 2 _ rfl)) (And.intro ((World.cell?_of_block (a := ⟨vb, vo + qi, none⟩) h2).trans r1) ((World.cell?_of_block (a := ⟨vb, vo + (qi + 1), none⟩) h2).trans r2)))
        simp only [List.getElem_toArray, List.getElem_cons_zero, List.getElem_cons_succ] at HD
        have hvbr : vb < wr.heap.size := Nat.lt_of_lt_of_le hblt HBL.out.size
        have hvbg : vb < g := by rw [← hgn]; exact hblt
        have HVBG := Lib.hid hvbg
        have HGN := Lib.hid hgn
        have HHB := Lib.hid hblt
        clear r1 r2 hgn hvbg hblt
        go_upto_region 8 with fail
        refine wp_region_free [0, 1, 2, 3, 4, 5, 6, 7, 8, 9, 10, 11] 14 (fun W' => W'.heap[g]? = wr.heap[g]? ∧ W'.heap[vb]? = wr.heap[vb]?) (by kernel_rfl) (by kernel_rfl) ?_
        change wpYields _ _ _ _ [_, _, _, _, _, _, _, _, _, _, _, _] _
        iterate 12 (refine yields_step (fun K hK => ?_); apply Exists.intro; apply And.intro; (apply yields_at rfl; rintro W' ⟨hb1, hb2⟩; obtain ⟨z0, z1, z2⟩ := HD.out W' hb1 hb2; have z3 := z2; rw [← Nat.add_assoc] at z3; go_simp; first | done | rfl); go_simp; refine hK _ ?_; clear hK K)
        refine yields_nil ?_
        refine anyP_one (k := 12) (by kernel_rfl) (by decide) rfl rfl ⟨rfl, rfl⟩ ?_
        refine wpP_step rfl (fun K hK => ?_)
        go_simp
        refine hK _ _ ?_
        clear hK K
        have hnews := heap_alloc_new wr (.cells #[.int .i64 yk, .int .i64 yv] 84)
        have hbV := bel_trans (bel_alloc wr (.cells #[.int .i64 yk, .int .i64 yv] 84)) (bel_drew _)
        have hone : ∀ u ∈ [Value.int .i64 yk, .int .i64 yv], u.oneCell' = true := by simp [Value.oneCell']
        refine anyP_one (k := 13) (by kernel_rfl) (by decide) rfl rfl ⟨hbV.block g hgl, hbV.block vb hvbr⟩ ?_
        refine wpP_step rfl (fun K hK => ?_)
        refine step_append_lies _ rfl _ _ 73 rfl (g + 1) 84 i0 _ 2 16 Try.underlying73 hi0 hz0 hz1 hz2 rfl (by omega) (.slice la q lc) q (outCells (l.take q)) (by rfl) (own_below HO9.out hbV) ⟨wr.heap.size, 0, none⟩ 1 1 [.int .i64 yk, .int .i64 yv] rfl rfl (World.news_of_block (cs := #[.int .i64 yk, .int .i64 yv]) (t := 84) (fr := (0, 0)) hnews) hone (by omega) (by unfold maxLen; omega) (by omega) (by have := hbV.size; omega) _ rfl ?_
        intro gg cap w9 hown hgrow hat hltg
        refine hK _ _ ?_
        clear hK K
        have hgne : some g ≠ (Value.slice la q lc).ownBlock := fun e => by
          have := (HO9.out.lt g e.symm).1; omega
        have hvne : some vb ≠ (Value.slice la q lc).ownBlock := fun e => by
          have := (HO9.out.lt vb e.symm).1; have := HVBG.out; omega
        have hg9 : w9.heap[g]? = wr.heap[g]? := (hgrow.block g (by have := hbV.size; omega) hgne).trans (hbV.block g hgl)
        have hv9 : w9.heap[vb]? = wr.heap[vb]? := (hgrow.block vb (by have := hbV.size; omega) hvne).trans (hbV.block vb hvbr)
        refine anyP_leaf ⟨hg9, hv9⟩ (by kernel_rfl) ?_
        simp only [List.drop_succ_cons, List.drop_zero]
        have y := hg9.trans HB9.out
        have yf := cells_free y 2
        have y2 := cells_at y 2 _ rfl
        simp only [List.getElem_toArray, List.getElem_cons_zero, List.getElem_cons_succ] at y2
        have hb9 : Below w2.heap.size w2 w9 := by
          have h5 := (HBL.out.trans (hbV.mono HBL.out.size)).grown hgrow (Nat.le_trans HBL.out.size hbV.size) (fun k hk => by have := (HO9.out.lt k hk).1; have := HGN.out; omega)
          exact h5
        have HN1 := Lib.hid (show (w9.setCell ⟨g, 2, none⟩ (.slice (some ⟨gg, 0, none⟩) (q + 1) cap)).heap[g]? = some (.cells #[.int .u8 2, .int .i64 n, .slice (some ⟨gg, 0, none⟩) (q + 1) cap] 142) by rw [cells_set y]; rfl)
        have HN2 := Lib.hid (show (w9.setCell ⟨g, 2, none⟩ (.slice (some ⟨gg, 0, none⟩) (q + 1) cap)).ownsRow (g + 1) 84 2 (.slice (some ⟨gg, 0, none⟩) (q + 1) cap) (q + 1) (outCells (l.take (q + 1))) by rw [HTK.out]; exact ownsRow_setCell_below hown (by show g < g + 1; omega) _)
        have HN3 := Lib.hid (hb9.setCell (p := ⟨g, 2, none⟩) (show w2.heap.size ≤ g by have := HGN.out; omega) (.slice (some ⟨gg, 0, none⟩) (q + 1) cap))
        have hsz : g < (w9.setCell ⟨g, 2, none⟩ (.slice (some ⟨gg, 0, none⟩) (q + 1) cap)).heap.size := (Array.getElem?_eq_some_iff.1 HN1.out).1
        have HSZ := Lib.hid hsz
        clear hnews hbV hone hown hgrow hat hltg hgne hvne hg9 hv9 y hb9 hsz
        go_wp2_with fail
        go_roundw
        case rel => exact ⟨q + 1, .slice (some ⟨gg, 0, none⟩) (q + 1) cap, by omega, by rw [← HQI.out]; go_num, HN1, HN2, HN3, HSZ.out⟩
        case measure => have := HQI.out; simp [intOf]; omega
      · have hqe : q = m := by omega
        subst hqe
        have hqN : ¬ ((1 + 2 * q : Nat) : Int) < (N : Int) := by have := HNM.out; omega
        have hall : l.take q = l := List.take_of_length_le (by rw [HM.out]; exact Nat.le_refl _)
        rw [hall] at HO9
        obtain ⟨la, lc, rfl⟩ := (Reads.own HO9.out).shape
        have d0 := cells_at HB9.out 0 _ rfl
        have d1 := cells_at HB9.out 1 _ rfl
        have d2 := cells_at HB9.out 2 _ rfl
        have hb4 := (HBL.out.block w.heap.size (by rw [HGG.out]; exact hgl4)).trans HB4.out
        have e0 := cells_at hb4 0 _ rfl
        have e1' := cells_at hb4 1 _ rfl
        have e2 := cells_at hb4 2 _ rfl
        have f0 := cells_free hb4 0
        have f1 := cells_free hb4 1
        have f2 := cells_free hb4 2
        simp only [List.getElem_toArray, List.getElem_cons_zero, List.getElem_cons_succ] at d0 d1 d2 e0 e1' e2
        have HBF := Lib.hid hb4
        obtain ⟨qi, hqi⟩ : ∃ qi, 1 + 2 * q = qi := ⟨_, rfl⟩
        rw [hqi] at hqN ⊢
        obtain ⟨X, hX⟩ : ∃ X, ((wr.setCell ⟨w.heap.size, 0, none⟩ (.int .u8 2)).setCell ⟨w.heap.size, 1, none⟩ (.int .i64 n)).setCell ⟨w.heap.size, 2, none⟩ (.slice la q lc) = X := ⟨_, rfl⟩
        have hXb : X.heap[w.heap.size]? = some (.cells #[.int .u8 2, .int .i64 n, .slice la q lc] 142) := by rw [← hX]; exact o_set3 HBF.out _ _ _
        have q0 := cells_at hXb 0 _ rfl
        have q1 := cells_at hXb 1 _ rfl
        have q2 := cells_at hXb 2 _ rfl
        simp only [List.getElem_toArray, List.getElem_cons_zero, List.getElem_cons_succ] at q0 q1 q2
        have hgw : w.heap.size < g + 1 := by omega
        have HXO := Lib.hid (show X.ownsRow w.heap.size 84 2 (.slice la q lc) q (outCells l) by
          rw [← hX]
          have s1 := ownsRow_setCell_below (a := ⟨w.heap.size, 0, none⟩) HO9.out hgw (.int .u8 2)
          have s2 := ownsRow_setCell_below (a := ⟨w.heap.size, 1, none⟩) s1 hgw (.int .i64 n)
          have s3 := ownsRow_setCell_below (a := ⟨w.heap.size, 2, none⟩) s2 hgw (.slice la q lc)
          exact World.ownsRow.mono s3 (by omega))
        have HXB := Lib.hid (show Below w.heap.size w X by
          rw [← hX]
          exact (((bel_trans HBW2.out HBL.out).setCell (p := ⟨w.heap.size, 0, none⟩) (Nat.le_refl _) _).setCell (p := ⟨w.heap.size, 1, none⟩) (Nat.le_refl _) _).setCell (p := ⟨w.heap.size, 2, none⟩) (Nat.le_refl _) _)
        have HXX := Lib.hid hX
        clear hall hb4 hlt hqi hX hXb hgw
        go_wp2_with fail
        rw [HXX.out]
        exact bodyPost_ret (v := .tuple #[.agg #[.int .u8 2, .int .i64 n, .slice la q lc], .bool true]) (by simp [results, Try.results69, go_sem, q0, q1, q2]) rfl ⟨_, rfl, HXO.out, HXB.out⟩

end Go.Proofs.Ytllecjhfbojgcaa
