/-
  The output's Counts, and the comparison of rows: walked.
-/
import Derived.Test.YtllecjhfbojgcaaOutTell
import Derived.Deep.QuietTactic
import Derived.BigQuiet
namespace Go.Proofs.Ytllecjhfbojgcaa
open Go.RowKit
set_option maxRecDepth 20000

theorem oappend_none {P : Program} {t e ty : TypeId} {i : TypeInfo} {z : Value} (w : World) (ht : P.underlying t = some (.slice e)) (hi : P.info? e = some i) (hz : i.zero = some z) (base : Option Addr) (n c : Nat) (hnc : n ≤ c) (hb : base = none → n = 0 ∧ c = 0) (lc : Nat) :
    (Builtin.append_ #[t, t] ty #[.slice base n c, .slice none 0 lc]).run P w = .ok (.slice base n c) w := by
  have hf : (Builtin.firstCells i.size 0 (.slice none 0 lc)).run P w = .ok #[] w := run_firstCells_none w _ _ _ _
  cases base with
  | none =>
    obtain ⟨rfl, rfl⟩ := hb rfl
    simp [Builtin.append_, run_underlying ht, sizeOf, typeInfo, zeroValue, hi, hz, Builtin.lenOf, hf]
  | some x => simp [Builtin.append_, run_underlying ht, sizeOf, typeInfo, zeroValue, hi, hz, Builtin.lenOf, hnc, hf, storeCells]
theorem own_caps {w : World} {base : Nat} {e : TypeId} {size n c : Nat} {a : Option Addr} {xs : List Value} (h : w.ownsRow base e size (.slice a n c) n xs) : n ≤ c ∧ (a = none → n = 0 ∧ c = 0) := by
  rcases h.2 with ⟨h2, h3⟩ | ⟨g, c', cur, h0, -, h2, h3, h4, h5, h6⟩
  · cases h2; exact ⟨Nat.le_refl _, fun _ => ⟨rfl, rfl⟩⟩
  · cases h0; exact ⟨h3, fun e => by cases e⟩

theorem counts_nil (i : Int) (w : World) : Calls Try.prog 35 #[.pointer none, .int .i64 i] w fun e w' => e = .returned (.slice none 0 0) ∧ w = w' := by
  go_enter Try.func35, Try.ntmps35
  go_wp2_with fail
  refine (is_nil i w).mono ?_
  rintro e w' ⟨rfl, rfl⟩
  go_wp2_with fail
  go_ret
  exact ⟨rfl, rfl⟩

def preO (rs : List ORec) (M : Int) : List OutX := (rs.filter fun r => decide (r.n ≤ M)).flatMap (·.l)
theorem preO_snoc (rs : List ORec) (M : Int) (r : ORec) : preO (rs ++ [r]) M = preO rs M ++ (if r.n ≤ M then r.l else []) := by
  unfold preO
  rw [List.filter_append, List.flatMap_append]
  by_cases h : r.n ≤ M <;> simp [h]
theorem preO_len (rs : List ORec) (M : Int) : (preO rs M).length ≤ (rs.flatMap (·.l)).length := by
  induction rs with
  | nil => exact Nat.le_refl _
  | cons r rs ih =>
    unfold preO at ih ⊢
    rw [List.filter_cons, List.flatMap_cons, List.length_append]
    split
    · rw [List.flatMap_cons, List.length_append]; omega
    · omega
theorem flat_take (rs : List ORec) (k : Nat) : ((rs.take k).flatMap (·.l)).length ≤ (rs.flatMap (·.l)).length := by
  conv => rhs; rw [← List.take_append_drop k rs]
  rw [List.flatMap_append, List.length_append]
  omega

set_option maxHeartbeats 16000000 in
set_option maxRecDepth 100000 in
theorem counts_any {fr : Fr} {w : World} {o d : Nat} {S : OSt} (h : OutLive fr w o d S) (p : Bool) (hbig : ((S.r p).flatMap (·.l)).length ≤ 1000000000) :
    Calls Try.prog 35 #[ptr o 0, .int .i64 (iP p)] w fun e w' => ∃ v, e = .returned v ∧ w'.ownsRow w.heap.size 84 2 v (countsO (S.r p)).length (outCells (countsO (S.r p))) ∧ Below w.heap.size w w' := by
  obtain ⟨i0, hi0, hz0, hz1, hz2⟩ := info_parts infoOut
  have HMK := Lib.hid (fun (X : World) (hX : Below w.heap.size w X) => marked_any (h.below hX) p)
  obtain ⟨b, l, col, h⟩ := h
  have hcp : decide (0 ≤ iP p) = true ∧ decide (iP p < 2) = true := by cases p <;> decide
  have his := is_some o (iP p) w
  rw [hcp.1, hcp.2] at his
  have hc := h.cells p
  obtain ⟨lv, qs, hpc, hr, hqs, hat⟩ := (h.part p).cells
  have hrd := hr.reads
  have hlen := hrd.lenLe
  unfold maxLen at hlen
  obtain ⟨rs, hrs⟩ : ∃ rs, S.r p = rs := ⟨_, rfl⟩
  rw [hrs] at HMK hrd hlen hqs hat hbig ⊢
  rw [show countsO rs = preO rs (lastO rs 2) from rfl]
  obtain ⟨M, hM⟩ : ∃ M, lastO rs 2 = M := ⟨_, rfl⟩
  rw [hM] at HMK ⊢
  obtain ⟨m, hm⟩ : ∃ m, rs.length = m := ⟨_, rfl⟩
  rw [hm] at hrd hlen hqs
  obtain ⟨a, c, rfl⟩ := hrd.shape
  have c1 := cells_at hpc 1 _ rfl
  simp only [List.getElem_toArray, List.getElem_cons_zero, List.getElem_cons_succ] at c1
  have HM := Lib.hid hm
  have HAT := Lib.hid hat
  have HRD := Lib.hid hrd
  have HB := Lib.hid hbig
  have HS := Lib.hid his
  obtain ⟨ip, hip⟩ : ∃ i, iP p = i := ⟨_, rfl⟩
  have hipp : (ip = 0 ∧ p = false) ∨ (ip = 1 ∧ p = true) := by rw [← hip]; cases p <;> simp [iP]
  rw [hip] at HMK HS ⊢
  unfold ptr at HMK HS hc ⊢
  clear h hpc hr hqs hat hrd hM hm hbig his hcp hrs hip
  rcases hipp with ⟨rfl, rfl⟩ | ⟨rfl, rfl⟩
  · replace hc : w.cell? ⟨o, 0, none⟩ = some (.pointer (some ⟨b false, 0, none⟩)) := hc
    go_enter Try.func35, Try.ntmps35
    go_wp2_with fail
    refine HS.out.mono ?_
    rintro e w1 ⟨rfl, rfl⟩
    go_wp2_with fail
    go_loopw [5, 22] (fun v i wr => ∃ q : Nat, q ≤ m ∧ i = .int .i64 (q : Int) ∧ Hid (wr.ownsRow w.heap.size 84 2 v (preO (rs.take q) M).length (outCells (preO (rs.take q) M))) ∧ Hid (Below w.heap.size w wr)) (fun _ i _ => m - (intOf i).toNat)
    case atStart => exact ⟨0, Nat.zero_le _, rfl, Lib.hid (by rw [List.take_zero]; exact World.ownsRow_nil _ _ _ _), Lib.hid (Below.refl _ _)⟩
    case round =>
      obtain ⟨q, hq, rfl, HOWN, HBL⟩ := hrel
      by_cases hlt : q < m
      · obtain ⟨r, hr⟩ : ∃ r, rs[q]? = some r := ⟨rs[q]'(by rw [HM.out]; omega), by simp⟩
        obtain ⟨v, hqv, hvr⟩ := HAT.out q r hr
        obtain ⟨va, vc, rfl⟩ := hvr.shape
        have hqk : (q : Int) < (m : Int) := by omega
        obtain ⟨b', o', cap, hv, hcap, hcm, hblt, hcells⟩ := HRD.out.some (by omega)
        cases hv
        obtain ⟨g0, g1, g2⟩ := oCells_at qs q _ hqv
        have r0 := (World.cell?_of_block (HBL.out.block b' hblt)).trans (hcells _ _ g0)
        have r1 := (World.cell?_of_block (HBL.out.block b' hblt)).trans (hcells _ _ g1)
        have r2 := (World.cell?_of_block (HBL.out.block b' hblt)).trans (hcells _ _ g2)
        rw [← Nat.add_assoc] at r1 r2
        have htk : preO (rs.take (q + 1)) M = preO (rs.take q) M ++ (if r.n ≤ M then r.l else []) := by
          rw [List.take_add_one, hr]
          exact preO_snoc _ _ _
        have HTK := Lib.hid htk
        have hpl := Nat.le_trans (preO_len (rs.take (q + 1)) M) (Nat.le_trans (flat_take rs (q + 1)) HB.out)
        rw [htk, List.length_append] at hpl
        have HPL := Lib.hid hpl
        have HVR := Lib.hid hvr
        have HOL := Lib.hid (outCells_len r.l)
        obtain ⟨vl, hvl⟩ : ∃ n, r.l.length = n := ⟨_, rfl⟩
        have HVL := Lib.hid hvl
        rw [hvl] at r2 HVR HOL
        obtain ⟨rk, rn, rl⟩ := r
        simp only at r0 r1 r2 HTK HPL HVR HOL HVL
        obtain ⟨z, hz⟩ : ∃ z, (rk.toNat : Int) = z := ⟨_, rfl⟩
        rw [hz] at r0
        obtain ⟨W, hW⟩ : ∃ W, wr.alloc (.cells #[.int .u8 z, .int .i64 rn, .slice va vl vc] 142) = W := ⟨_, rfl⟩
        have hbW := bel_trans HBL.out (show Below wr.heap.size wr W by rw [← hW]; exact bel_alloc _ _)
        have hbox : W.heap[wr.heap.size]? = some (.cells #[.int .u8 z, .int .i64 rn, .slice va vl vc] 142) := by rw [← hW]; exact heap_alloc_new wr _
        have hgl := (Array.getElem?_eq_some_iff.1 hbox).1
        have x1 := cells_at hbox 1 _ rfl
        have x2 := cells_at hbox 2 _ rfl
        simp only [List.getElem_toArray, List.getElem_cons_zero, List.getElem_cons_succ] at x1 x2
        have HW := Lib.hid hW
        have HBW := Lib.hid hbW
        have HOW := Lib.hid (show W.ownsRow w.heap.size 84 2 u5 (preO (rs.take q) M).length (outCells (preO (rs.take q) M)) by rw [← hW]; exact HOWN.out.alloc _)
        have HVR2 := Lib.hid (HVR.out.below HBL.out)
        clear hr hqv hvr g0 g1 g2 hcells htk hpl hvl hz hW hbW hbox
        go_upto_region 7 with fail
        rw [HW.out]
        go_region_held3 (fun w' => Below W.heap.size W w' ∧ w'.cell? ⟨wr.heap.size, 1, none⟩ = some (.int .i64 rn) ∧ w'.cell? ⟨wr.heap.size, 2, none⟩ = some (.slice va vl vc))
          (first
            | exact ⟨bel_drew _, x1, x2⟩
            | exact ⟨hS.1.trans (hb3.mono hS.1.size), (hb3.cell (p := ⟨wr.heap.size, 1, none⟩) (Nat.lt_of_lt_of_le hgl hS.1.size)).trans hS.2.1, (hb3.cell (p := ⟨wr.heap.size, 2, none⟩) (Nat.lt_of_lt_of_le hgl hS.1.size)).trans hS.2.2⟩)
          (first
            | (go_at_call 40; have hS := ‹Below W.heap.size W _ ∧ _›; refine (HMK.out _ (bel_trans HBW.out hS.1)).mono ?_; rintro e w3 ⟨rfl, hb3⟩))
        all_goals
          have hF := ‹Below W.heap.size W _ ∧ _›
          have HF := Lib.hid (bel_trans HBW.out hF.1)
          have y2 := hF.2.2
          have ho3 := own_below HOW.out hF.1
          obtain ⟨a5, c5, rfl⟩ := (Reads.own ho3).shape
          have HO3 := Lib.hid ho3
          have hbr : Below wr.heap.size wr w3 := by
            have e : Below wr.heap.size wr W := by rw [← HW.out]; exact bel_alloc _ _
            exact bel_trans e hF.1
          have hv3 := HVR2.out.below hbr
          have HV3 := Lib.hid hv3
          clear hF x1 x2 ho3 hv3 hbr
          by_cases hc2 : rn ≤ M
          · have htk2 : preO (rs.take (q + 1)) M = preO (rs.take q) M ++ rl := by rw [HTK.out, if_pos hc2]
            have HTK2 := Lib.hid htk2
            have hpl2 := HPL.out
            rw [if_pos hc2, HVL.out] at hpl2
            have HPL2 := Lib.hid hpl2
            obtain ⟨k5, hk5⟩ : ∃ k, (preO (rs.take q) M).length = k := ⟨_, rfl⟩
            have HK5 := Lib.hid hk5
            rw [hk5] at HO3 HPL2 ⊢
            clear htk2 hpl2 hk5
            cases va with
            | none =>
              have hvl0 : vl = 0 := by
                rcases HV3.out with ⟨_, _, h1, h2, h3⟩ | ⟨b, o, k, h1, -⟩
                · exact h2
                · cases h1
              subst hvl0
              have hrl0 : rl = [] := List.eq_nil_of_length_eq_zero HVL.out
              obtain ⟨hca, hcb⟩ := own_caps HO3.out
              have hap := fun ty => oappend_none (P := Try.prog) (t := 73) (ty := ty) w3 Try.underlying73 hi0 hz0 a5 k5 c5 hca hcb vc
              have HON := Lib.hid (show w3.ownsRow w.heap.size 84 2 (.slice a5 k5 c5) (preO (rs.take (q + 1)) M).length (outCells (preO (rs.take (q + 1)) M)) by rw [HTK2.out, hrl0, List.append_nil, HK5.out]; exact HO3.out)
              clear hrl0
              cases a5 with
              | none =>
                obtain ⟨rfl, rfl⟩ := hcb rfl
                clear hca hcb
                go_wp2_with fail
                go_roundw
                case rel => exact ⟨q + 1, by omega, by go_num, HON, HF⟩
                case measure => simp [intOf]; omega
              | some ad5 =>
                clear hcb
                go_wp2_with fail
                go_roundw
                case rel => exact ⟨q + 1, by omega, by go_num, HON, HF⟩
                case measure => simp [intOf]; omega
            | some ad =>
              have HAD := Lib.hid (reads_ad HV3.out ad rfl)
              have HON := Lib.hid (ints_ocell (flatO rl))
              have hpm := HPL2.out
              go_wp2_with (at_builtin; refine wpList_append_own _ rfl _ _ 73 rfl w.heap.size 84 i0 (.agg #[.int .i64 0, .int .i64 0]) 2 16 Try.underlying73 hi0 hz0 hz1 hz2 rfl (by decide) (.slice a5 k5 c5) k5 (outCells (preO (rs.take q) M)) (by rfl) HO3.out ad vl vc (outCells rl) (by rfl) HOL.out HAD.out HON.out (by unfold maxLen; omega) (by omega) HF.out.size ?_)
              intro v' w' hown hgr _
              have hb := HF.out.grown hgr HF.out.size (fun k hk => (HO3.out.lt k hk).1)
              have HON2 := Lib.hid (show w'.ownsRow w.heap.size 84 2 v' (preO (rs.take (q + 1)) M).length (outCells (preO (rs.take (q + 1)) M)) by rw [HTK2.out, List.length_append, outCells_app, HK5.out, HVL.out]; exact hown)
              have HBN := Lib.hid hb
              clear hown hgr hb hpm
              go_wp2_with fail
              go_roundw
              case rel => exact ⟨q + 1, by omega, by go_num, HON2, HBN⟩
              case measure => simp [intOf]; omega
          · have htk2 : preO (rs.take (q + 1)) M = preO (rs.take q) M := by rw [HTK.out, if_neg hc2, List.append_nil]
            have HON := Lib.hid (show w3.ownsRow w.heap.size 84 2 (.slice a5 (preO (rs.take q) M).length c5) (preO (rs.take (q + 1)) M).length (outCells (preO (rs.take (q + 1)) M)) by rw [htk2]; exact HO3.out)
            clear htk2
            go_wp2_with fail
            go_roundw
            case rel => exact ⟨q + 1, by omega, by go_num, HON, HF⟩
            case measure => simp [intOf]; omega
      · have hqe : q = m := by omega
        subst hqe
        have hqq : ¬ (q : Int) < (q : Int) := by omega
        clear hlt
        have hall : rs.take q = rs := List.take_of_length_le (by rw [HM.out]; exact Nat.le_refl _)
        rw [hall] at HOWN
        obtain ⟨a2, c2, hv⟩ := (Reads.own HOWN.out).shape
        subst hv
        clear hall
        go_wp2_with fail
        go_ret
        exact ⟨_, rfl, HOWN.out, HBL.out⟩
  · replace hc : w.cell? ⟨o, 1, none⟩ = some (.pointer (some ⟨b true, 0, none⟩)) := hc
    go_enter Try.func35, Try.ntmps35
    go_wp2_with fail
    refine HS.out.mono ?_
    rintro e w1 ⟨rfl, rfl⟩
    go_wp2_with fail
    go_loopw [5, 22] (fun v i wr => ∃ q : Nat, q ≤ m ∧ i = .int .i64 (q : Int) ∧ Hid (wr.ownsRow w.heap.size 84 2 v (preO (rs.take q) M).length (outCells (preO (rs.take q) M))) ∧ Hid (Below w.heap.size w wr)) (fun _ i _ => m - (intOf i).toNat)
    case atStart => exact ⟨0, Nat.zero_le _, rfl, Lib.hid (by rw [List.take_zero]; exact World.ownsRow_nil _ _ _ _), Lib.hid (Below.refl _ _)⟩
    case round =>
      obtain ⟨q, hq, rfl, HOWN, HBL⟩ := hrel
      by_cases hlt : q < m
      · obtain ⟨r, hr⟩ : ∃ r, rs[q]? = some r := ⟨rs[q]'(by rw [HM.out]; omega), by simp⟩
        obtain ⟨v, hqv, hvr⟩ := HAT.out q r hr
        obtain ⟨va, vc, rfl⟩ := hvr.shape
        have hqk : (q : Int) < (m : Int) := by omega
        obtain ⟨b', o', cap, hv, hcap, hcm, hblt, hcells⟩ := HRD.out.some (by omega)
        cases hv
        obtain ⟨g0, g1, g2⟩ := oCells_at qs q _ hqv
        have r0 := (World.cell?_of_block (HBL.out.block b' hblt)).trans (hcells _ _ g0)
        have r1 := (World.cell?_of_block (HBL.out.block b' hblt)).trans (hcells _ _ g1)
        have r2 := (World.cell?_of_block (HBL.out.block b' hblt)).trans (hcells _ _ g2)
        rw [← Nat.add_assoc] at r1 r2
        have htk : preO (rs.take (q + 1)) M = preO (rs.take q) M ++ (if r.n ≤ M then r.l else []) := by
          rw [List.take_add_one, hr]
          exact preO_snoc _ _ _
        have HTK := Lib.hid htk
        have hpl := Nat.le_trans (preO_len (rs.take (q + 1)) M) (Nat.le_trans (flat_take rs (q + 1)) HB.out)
        rw [htk, List.length_append] at hpl
        have HPL := Lib.hid hpl
        have HVR := Lib.hid hvr
        have HOL := Lib.hid (outCells_len r.l)
        obtain ⟨vl, hvl⟩ : ∃ n, r.l.length = n := ⟨_, rfl⟩
        have HVL := Lib.hid hvl
        rw [hvl] at r2 HVR HOL
        obtain ⟨rk, rn, rl⟩ := r
        simp only at r0 r1 r2 HTK HPL HVR HOL HVL
        obtain ⟨z, hz⟩ : ∃ z, (rk.toNat : Int) = z := ⟨_, rfl⟩
        rw [hz] at r0
        obtain ⟨W, hW⟩ : ∃ W, wr.alloc (.cells #[.int .u8 z, .int .i64 rn, .slice va vl vc] 142) = W := ⟨_, rfl⟩
        have hbW := bel_trans HBL.out (show Below wr.heap.size wr W by rw [← hW]; exact bel_alloc _ _)
        have hbox : W.heap[wr.heap.size]? = some (.cells #[.int .u8 z, .int .i64 rn, .slice va vl vc] 142) := by rw [← hW]; exact heap_alloc_new wr _
        have hgl := (Array.getElem?_eq_some_iff.1 hbox).1
        have x1 := cells_at hbox 1 _ rfl
        have x2 := cells_at hbox 2 _ rfl
        simp only [List.getElem_toArray, List.getElem_cons_zero, List.getElem_cons_succ] at x1 x2
        have HW := Lib.hid hW
        have HBW := Lib.hid hbW
        have HOW := Lib.hid (show W.ownsRow w.heap.size 84 2 u5 (preO (rs.take q) M).length (outCells (preO (rs.take q) M)) by rw [← hW]; exact HOWN.out.alloc _)
        have HVR2 := Lib.hid (HVR.out.below HBL.out)
        clear hr hqv hvr g0 g1 g2 hcells htk hpl hvl hz hW hbW hbox
        go_upto_region 7 with fail
        rw [HW.out]
        go_region_held3 (fun w' => Below W.heap.size W w' ∧ w'.cell? ⟨wr.heap.size, 1, none⟩ = some (.int .i64 rn) ∧ w'.cell? ⟨wr.heap.size, 2, none⟩ = some (.slice va vl vc))
          (first
            | exact ⟨bel_drew _, x1, x2⟩
            | exact ⟨hS.1.trans (hb3.mono hS.1.size), (hb3.cell (p := ⟨wr.heap.size, 1, none⟩) (Nat.lt_of_lt_of_le hgl hS.1.size)).trans hS.2.1, (hb3.cell (p := ⟨wr.heap.size, 2, none⟩) (Nat.lt_of_lt_of_le hgl hS.1.size)).trans hS.2.2⟩)
          (first
            | (go_at_call 40; have hS := ‹Below W.heap.size W _ ∧ _›; refine (HMK.out _ (bel_trans HBW.out hS.1)).mono ?_; rintro e w3 ⟨rfl, hb3⟩))
        all_goals
          have hF := ‹Below W.heap.size W _ ∧ _›
          have HF := Lib.hid (bel_trans HBW.out hF.1)
          have y2 := hF.2.2
          have ho3 := own_below HOW.out hF.1
          obtain ⟨a5, c5, rfl⟩ := (Reads.own ho3).shape
          have HO3 := Lib.hid ho3
          have hbr : Below wr.heap.size wr w3 := by
            have e : Below wr.heap.size wr W := by rw [← HW.out]; exact bel_alloc _ _
            exact bel_trans e hF.1
          have hv3 := HVR2.out.below hbr
          have HV3 := Lib.hid hv3
          clear hF x1 x2 ho3 hv3 hbr
          by_cases hc2 : rn ≤ M
          · have htk2 : preO (rs.take (q + 1)) M = preO (rs.take q) M ++ rl := by rw [HTK.out, if_pos hc2]
            have HTK2 := Lib.hid htk2
            have hpl2 := HPL.out
            rw [if_pos hc2, HVL.out] at hpl2
            have HPL2 := Lib.hid hpl2
            obtain ⟨k5, hk5⟩ : ∃ k, (preO (rs.take q) M).length = k := ⟨_, rfl⟩
            have HK5 := Lib.hid hk5
            rw [hk5] at HO3 HPL2 ⊢
            clear htk2 hpl2 hk5
            cases va with
            | none =>
              have hvl0 : vl = 0 := by
                rcases HV3.out with ⟨_, _, h1, h2, h3⟩ | ⟨b, o, k, h1, -⟩
                · exact h2
                · cases h1
              subst hvl0
              have hrl0 : rl = [] := List.eq_nil_of_length_eq_zero HVL.out
              obtain ⟨hca, hcb⟩ := own_caps HO3.out
              have hap := fun ty => oappend_none (P := Try.prog) (t := 73) (ty := ty) w3 Try.underlying73 hi0 hz0 a5 k5 c5 hca hcb vc
              have HON := Lib.hid (show w3.ownsRow w.heap.size 84 2 (.slice a5 k5 c5) (preO (rs.take (q + 1)) M).length (outCells (preO (rs.take (q + 1)) M)) by rw [HTK2.out, hrl0, List.append_nil, HK5.out]; exact HO3.out)
              clear hrl0
              cases a5 with
              | none =>
                obtain ⟨rfl, rfl⟩ := hcb rfl
                clear hca hcb
                go_wp2_with fail
                go_roundw
                case rel => exact ⟨q + 1, by omega, by go_num, HON, HF⟩
                case measure => simp [intOf]; omega
              | some ad5 =>
                clear hcb
                go_wp2_with fail
                go_roundw
                case rel => exact ⟨q + 1, by omega, by go_num, HON, HF⟩
                case measure => simp [intOf]; omega
            | some ad =>
              have HAD := Lib.hid (reads_ad HV3.out ad rfl)
              have HON := Lib.hid (ints_ocell (flatO rl))
              have hpm := HPL2.out
              go_wp2_with (at_builtin; refine wpList_append_own _ rfl _ _ 73 rfl w.heap.size 84 i0 (.agg #[.int .i64 0, .int .i64 0]) 2 16 Try.underlying73 hi0 hz0 hz1 hz2 rfl (by decide) (.slice a5 k5 c5) k5 (outCells (preO (rs.take q) M)) (by rfl) HO3.out ad vl vc (outCells rl) (by rfl) HOL.out HAD.out HON.out (by unfold maxLen; omega) (by omega) HF.out.size ?_)
              intro v' w' hown hgr _
              have hb := HF.out.grown hgr HF.out.size (fun k hk => (HO3.out.lt k hk).1)
              have HON2 := Lib.hid (show w'.ownsRow w.heap.size 84 2 v' (preO (rs.take (q + 1)) M).length (outCells (preO (rs.take (q + 1)) M)) by rw [HTK2.out, List.length_append, outCells_app, HK5.out, HVL.out]; exact hown)
              have HBN := Lib.hid hb
              clear hown hgr hb hpm
              go_wp2_with fail
              go_roundw
              case rel => exact ⟨q + 1, by omega, by go_num, HON2, HBN⟩
              case measure => simp [intOf]; omega
          · have htk2 : preO (rs.take (q + 1)) M = preO (rs.take q) M := by rw [HTK.out, if_neg hc2, List.append_nil]
            have HON := Lib.hid (show w3.ownsRow w.heap.size 84 2 (.slice a5 (preO (rs.take q) M).length c5) (preO (rs.take (q + 1)) M).length (outCells (preO (rs.take (q + 1)) M)) by rw [htk2]; exact HO3.out)
            clear htk2
            go_wp2_with fail
            go_roundw
            case rel => exact ⟨q + 1, by omega, by go_num, HON, HF⟩
            case measure => simp [intOf]; omega
      · have hqe : q = m := by omega
        subst hqe
        have hqq : ¬ (q : Int) < (q : Int) := by omega
        clear hlt
        have hall : rs.take q = rs := List.take_of_length_le (by rw [HM.out]; exact Nat.le_refl _)
        rw [hall] at HOWN
        obtain ⟨a2, c2, hv⟩ := (Reads.own HOWN.out).shape
        subst hv
        clear hall
        go_wp2_with fail
        go_ret
        exact ⟨_, rfl, HOWN.out, HBL.out⟩

/-- Rows of the same. -/
theorem oequal_same (w : World) (u v : Value) (l : List OutX) (hu : Reads w u l.length (outCells l)) (hv : Reads w v l.length (outCells l)) :
    Calls Try.prog 41 #[u, v] w fun e w' => e = .returned (.bool true) ∧ Below w.heap.size w w' := by
  have hlen := hu.lenLe
  unfold maxLen at hlen
  obtain ⟨a, c, rfl⟩ := hu.shape
  obtain ⟨a2, c2, rfl⟩ := hv.shape
  obtain ⟨m, hm⟩ : ∃ m, l.length = m := ⟨_, rfl⟩
  have HM := Lib.hid hm
  have HU := Lib.hid hu
  have HV := Lib.hid hv
  rw [hm] at HU HV hlen ⊢
  clear hu hv hm
  go_enter Try.func41, Try.ntmps41
  go_wp2_with fail
  go_loopw [13] (fun i wr => ∃ q : Nat, q ≤ m ∧ i = .int .i64 (q : Int) ∧ Hid (Below w.heap.size w wr)) (fun i _ => m - (intOf i).toNat)
  case atStart => exact ⟨0, Nat.zero_le _, rfl, Lib.hid (Below.refl _ _)⟩
  case round =>
    obtain ⟨q, hq, rfl, HB⟩ := hrel
    by_cases hlt : q < m
    · obtain ⟨x, hx⟩ : ∃ x, l[q]? = some x := ⟨l[q]'(by rw [HM.out]; omega), by simp⟩
      obtain ⟨b1, o1, k1, e1, -, -, hb1, hc1⟩ := HU.out.some (by omega)
      obtain ⟨b2, o2, k2, e2, -, -, hb2, hc2⟩ := HV.out.some (by omega)
      cases e1
      cases e2
      obtain ⟨g0, g1⟩ := outCells_at l q x hx
      have r0 := (World.cell?_of_block (HB.out.block b1 hb1)).trans (hc1 _ _ g0)
      have r1 := (World.cell?_of_block (HB.out.block b1 hb1)).trans (hc1 _ _ g1)
      have s0 := (World.cell?_of_block (HB.out.block b2 hb2)).trans (hc2 _ _ g0)
      have s1 := (World.cell?_of_block (HB.out.block b2 hb2)).trans (hc2 _ _ g1)
      rw [← Nat.add_assoc] at r1 s1
      have hqk : (q : Int) < (m : Int) := by omega
      clear hx g0 g1 hc1 hc2
      obtain ⟨xk, xv⟩ := x
      simp only at r0 r1 s0 s1
      go_wp2_with fail
      go_quiet (fail)
      go_wp2_with fail
      go_roundw
      case rel => exact ⟨q + 1, by omega, by go_num, Lib.hid (bel_trans HB.out (bel_drewN _ _))⟩
      case measure => simp [intOf]; omega
    · have hqe : q = m := by omega
      subst hqe
      have hqq : ¬ (q : Int) < (q : Int) := by omega
      clear hlt
      go_wp2_with fail
      go_ret
      exact ⟨rfl, HB.out⟩

end Go.Proofs.Ytllecjhfbojgcaa
