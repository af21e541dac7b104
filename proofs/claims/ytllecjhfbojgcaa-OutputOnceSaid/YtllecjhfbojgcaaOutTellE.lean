/-
  The output's Tell walked, with a row that may be empty and lie anywhere.
-/
import Derived.Test.YtllecjhfbojgcaaOutTell
namespace Go.Proofs.Ytllecjhfbojgcaa
open Go.RowKit
set_option maxRecDepth 20000

set_option maxHeartbeats 16000000 in
set_option maxRecDepth 100000 in
theorem otell_e {fr : Fr} {w : World} {o d : Nat} {S : OSt} {j : Nat} (h : OutLive fr w o d S) (hf : OFit j S) (hj : j ≤ 30000) (p : Bool) (n : Int) (hn : Cl.In64 n) (v : Value) (l : List OutX) (hr : Reads w v l.length (outCells l)) (hvK : ∀ g, v.ownBlock = some g → 0 < l.length → fr.K g) (hin : OIn l) (hl : l.length ≤ 5000) :
    Calls Try.prog 36 #[ptr o 0, .int .i64 (iP p), .int .i64 n, v] w fun e w' => e = .returned (.int .i64 (S.tell p n l).1) ∧ OutLive fr w' o d (S.tell p n l).2 := by
  have hT := told_any h p
  have HM := Lib.hid (fun (X : World) (hX : Below w.heap.size w X) => marked_any (h.below hX) p)
  have hcp : decide (0 ≤ iP p) = true ∧ decide (iP p < 2) = true := by cases p <;> decide
  have his := is_some o (iP p) w
  rw [hcp.1, hcp.2] at his
  have HZ := Lib.hid (show S.tell p n l = if n ≤ lastO (S.r p) 1 ∨ n ≤ lastO (S.r p) 2 then (2, S) else OSt.tells p n (l.length / 1000 + 1) S l from rfl)
  obtain ⟨Z, hZ⟩ : ∃ Z, S.tell p n l = Z := ⟨_, rfl⟩
  rw [hZ] at HZ ⊢
  obtain ⟨A, hA⟩ : ∃ A, lastO (S.r p) 1 = A := ⟨_, rfl⟩
  obtain ⟨B, hB⟩ : ∃ B, lastO (S.r p) 2 = B := ⟨_, rfl⟩
  rw [hA] at hT HZ
  rw [hB] at HM HZ
  obtain ⟨ip, hip⟩ : ∃ i, iP p = i := ⟨_, rfl⟩
  have hipp : ip = 0 ∨ ip = 1 := by rw [← hip]; cases p <;> simp [iP]
  rw [hip] at hT HM his ⊢
  have HIP := Lib.hid hip
  have HT := Lib.hid hT
  have HS := Lib.hid his
  have HH := Lib.hid h
  have HR := Lib.hid hr
  have HF := Lib.hid hf
  have HIN := Lib.hid hin
  have HVK := Lib.hid hvK
  unfold ptr at HT HM HS ⊢
  clear h hf hr hvK hin hT his hZ hA hB hcp hip
  obtain ⟨va, vc, rfl⟩ := HR.out.shape
  obtain ⟨m, hmm⟩ : ∃ m, l.length = m := ⟨_, rfl⟩
  have HMM := Lib.hid hmm
  rw [hmm] at HR hl HZ HVK ⊢
  clear hmm
  by_cases c1 : n ≤ A
  · have hz : Z = (2, S) := by rw [HZ.out, if_pos (.inl c1)]
    have HZ2 := Lib.hid hz
    clear hz
    go_enter Try.func36, Try.ntmps36
    go_wp2_with fail
    refine HS.out.mono ?_
    rintro e w1 ⟨rfl, rfl⟩
    go_wp2_with fail
    refine HT.out.mono ?_
    rintro e w1 ⟨rfl, hb1⟩
    have HB1 := Lib.hid hb1
    clear hb1
    go_wp2_with fail
    go_ret
    rw [HZ2.out]
    exact ⟨rfl, HH.out.below HB1.out⟩
  · have d1 : ¬ n ≤ A := c1
    by_cases c2 : n ≤ B
    · have hz : Z = (2, S) := by rw [HZ.out, if_pos (.inr c2)]
      have HZ2 := Lib.hid hz
      clear hz
      go_enter Try.func36, Try.ntmps36
      go_wp2_with fail
      refine HS.out.mono ?_
      rintro e w1 ⟨rfl, rfl⟩
      go_wp2_with fail
      refine HT.out.mono ?_
      rintro e w1 ⟨rfl, hb1⟩
      have HB1 := Lib.hid hb1
      clear hb1
      go_wp2_with fail
      refine (HM.out w1 HB1.out).mono ?_
      rintro e w2 ⟨rfl, hb2⟩
      have HB2 := Lib.hid (bel_trans HB1.out hb2)
      clear hb2
      go_wp2_with fail
      go_ret
      rw [HZ2.out]
      exact ⟨rfl, HH.out.below HB2.out⟩
    · have hz : Z = OSt.tells p n (m / 1000 + 1) S l := by rw [HZ.out, if_neg (by omega)]
      have HZ2 := Lib.hid hz
      clear hz
      go_enter Try.func36, Try.ntmps36
      go_wp2_with fail
      refine HS.out.mono ?_
      rintro e w1 ⟨rfl, rfl⟩
      go_wp2_with fail
      refine HT.out.mono ?_
      rintro e w1 ⟨rfl, hb1⟩
      have HB1 := Lib.hid hb1
      clear hb1
      go_wp2_with fail
      refine (HM.out w1 HB1.out).mono ?_
      rintro e w2 ⟨rfl, hb2⟩
      have HH2 := Lib.hid (HH.out.below (bel_trans HB1.out hb2))
      have HR2 := Lib.hid (HR.out.below (bel_trans HB1.out hb2))
      clear hb2
      go_wp2_with fail
      go_loopw [3] (fun lv wr => ∃ (S' : OSt) (rest : List OutX) (j' m' : Nat) (va' : Option Addr) (vc' : Nat), lv = .slice va' m' vc' ∧ Hid (rest.length = m') ∧ Hid (Z = OSt.tells p n (m' / 1000 + 1) S' rest) ∧ Hid (OutLive fr wr o d S') ∧ Hid (OFit j' S') ∧ j' + m' / 1000 ≤ 30010 ∧ Hid (Reads wr (.slice va' m' vc') m' (outCells rest)) ∧ Hid (∀ g, (Value.slice va' m' vc').ownBlock = some g → 0 < m' → fr.K g) ∧ Hid (OIn rest) ∧ m' ≤ 5000) (fun lv _ => lenOf lv)
      case atStart => exact ⟨S, l, j, m, va, vc, rfl, HMM, HZ2, HH2, HF, by omega, HR2, HVK, HIN, hl⟩
      case round =>
        clear HZ HH HF HR HIN HVK HM HT HS HB1 HH2 HR2 HMM HZ2 hl hj
        obtain ⟨S', rest, j', m', va', vc', rfl, HMM, HZ, HH, HF, hj, HR, HVK, HIN, hl⟩ := hrel
        have htl := HZ.out
        rw [tells_step] at htl
        have hold := HH.out.old
        have hpr : ∀ (X : World), Since fr X → Reads wr (.slice va' m' vc') m' (outCells rest) → Reads X (.slice va' m' vc') m' (outCells rest) := fun X hX hx => by
          by_cases hm0 : m' = 0
          · have hr0 : rest = [] := List.eq_nil_of_length_eq_zero (by rw [HMM.out]; exact hm0)
            subst hr0
            subst hm0
            exact .inl ⟨_, _, rfl, rfl, rfl⟩
          · rcases hx with ⟨_, _, h1, h2, h3⟩ | ⟨b, o, k, h1, h2, h3, h4, h5⟩
            · exact absurd h2 hm0
            · cases h1
              have hk := HVK.out b rfl (by omega)
              exact .inr ⟨b, o, _, rfl, h2, h3, Nat.lt_of_lt_of_le (fr.lt b hk) hX.size, fun i u hu => (World.cell?_of_block ((hX.block b hk).trans (hold.block b hk).symm)).trans (h5 i u hu)⟩
        have HPR := Lib.hid (fun (X : World) (hX : Since fr X) (hx : Reads wr (.slice va' m' vc') m' (outCells rest)) => hpr X hX hx)
        have HIPN := Lib.hid (show ip.toNat = (if p then 1 else 0) by rw [← HIP.out]; cases p <;> rfl)
        clear hpr
        by_cases hm : m' ≤ 1000
        · have htk : rest.take 1000 = rest := List.take_of_length_le (by rw [HMM.out]; exact hm)
          rw [htk, HMM.out, if_pos hm] at htl
          have HTL := Lib.hid htl
          clear htk
          have hcl := oclone_any wr _ rest (by rw [HMM.out]; exact HR.out) (by rw [HMM.out]; omega)
          rw [HMM.out] at hcl
          have HCL := Lib.hid hcl
          have hmin : min (m' : Int) 1000 = (m' : Int) := by omega
          have hcap : (m' : Int) ≤ (vc' : Int) := by have := reads_cap HR.out; omega
          have HTKL := HMM
          have HINR := HIN
          clear htl hold hcl
          go_wp2_with fail
          refine HCL.out.mono ?_
          rintro e w3 ⟨v3, rfl, hown3, hb3⟩
          have hov := own_out hown3
          have hrd3 := Reads.own hown3
          obtain ⟨a3, c3, rfl⟩ := hrd3.shape
          obtain ⟨W, hW⟩ : ∃ W, w3.alloc (.cells #[.int .u8 1, .int .i64 n, .slice a3 m' c3] 142) = W := ⟨_, rfl⟩
          have hbW : Below w3.heap.size w3 W := by rw [← hW]; exact bel_alloc _ _
          have hbox : W.heap[w3.heap.size]? = some (.cells #[.int .u8 1, .int .i64 n, .slice a3 m' c3] 142) := by rw [← hW]; exact heap_alloc_new w3 _
          have hbl := (Array.getElem?_eq_some_iff.1 hbox).1
          have hs3 := hb3.size
          have hOK := (HH.out.keep.grow (bel_trans hb3 hbW)).less (K' := fun k => (Value.slice a3 m' c3).ownBlock = some k ∨ k = w3.heap.size) (fun k hk => .inr (by
            rcases hk with hk | hk
            · have := hov k hk; exact ⟨this.1, by omega⟩
            · exact ⟨by omega, by omega⟩))
          obtain ⟨bp, hcell, hput⟩ := oput_live (K := fun k => k = w3.heap.size) p ⟨1, n, rest⟩ (.slice a3 m' c3) hOK (fun k hk e => by have := hov k hk; omega) HF.out (by omega) (by rw [show (ORec.mk 1 n (rest)).l.length = m' from HTKL.out]; exact hrd3.below hbW)
            (fun k hk => ⟨HH.out.old.fresh (hov k hk).1, by obtain ⟨h1, h2, cur, h3⟩ := hov k hk; exact ⟨cur, (hbW.block k h2).trans h3⟩⟩) hn HINR.out (show (rest).length ≤ 1000 by rw [HTKL.out]; omega) 1 (show (((1 : UInt8).toNat : Nat) : Int) = 1 by decide)
          have hcl2 := fun X hX => hcell X hX
          rw [← HIPN.out] at hcl2
          have HROW := Lib.hid (fun (X : World) (hX : Below W.heap.size W X) => And.intro (hcl2 X hX) (And.intro ((World.cell?_of_block (a := ⟨w3.heap.size, 0, none⟩) (hX.block w3.heap.size hbl)).trans (cells_at hbox 0 _ rfl)) (And.intro ((World.cell?_of_block (a := ⟨w3.heap.size, 1, none⟩) (hX.block w3.heap.size hbl)).trans (cells_at hbox 1 _ rfl)) ((World.cell?_of_block (a := ⟨w3.heap.size, 2, none⟩) (hX.block w3.heap.size hbl)).trans (cells_at hbox 2 _ rfl)))))
          have HPUT := Lib.hid hput
          have HBOX := Lib.hid hbox
          have HW := Lib.hid hW
          have HFP := Lib.hid (HF.out.put p ⟨1, n, rest⟩ (show (rest).length ≤ 1000 by rw [HTKL.out]; omega))
          obtain ⟨E, T, hET⟩ : ∃ E T, S'.put p ⟨1, n, rest⟩ = (E, T) := ⟨_, _, rfl⟩
          rw [hET] at HPUT HTL HFP
          unfold ptr at HROW HPUT
          simp only [List.getElem_toArray, List.getElem_cons_zero, List.getElem_cons_succ] at HROW
          clear hown3 hb3 hov hrd3 hW hbW hbox hbl hs3 hOK hcell hput hcl2 hET
          go_upto_region 6 with fail
          rw [HW.out]
          rcases hipp with rfl | rfl
          · replace HROW : Hid (∀ X, Below W.heap.size W X → X.cell? ⟨o, 0, none⟩ = some (.pointer (some ⟨bp, 0, none⟩)) ∧ X.cell? ⟨w3.heap.size, 0, none⟩ = some (.int .u8 1) ∧ X.cell? ⟨w3.heap.size, 1, none⟩ = some (.int .i64 n) ∧ X.cell? ⟨w3.heap.size, 2, none⟩ = some (.slice a3 m' c3)) := HROW
            refine wp_region_free [0, 1, 2, 3, 4, 5, 6] 7 (fun W' => Below W.heap.size W W') (by kernel_rfl) (by kernel_rfl) ?_
            change wpYields _ _ _ _ [_, _, _, _, _, _, _] _
            iterate 7 (refine yields_step (fun K hK => ?_); apply Exists.intro; apply And.intro; (apply yields_at rfl; rintro W' hb; obtain ⟨z0, z1, z2, z3⟩ := HROW.out W' hb; go_simp; first | done | rfl); go_simp; refine hK _ ?_; clear hK K)
            refine yields_nil ?_
            refine anyP_leaf (bel_drew _) (by kernel_rfl) ?_
            simp only [List.drop_succ_cons, List.drop_zero]
            go_wp2_with fail
            refine (HPUT.out W.drew (bel_drew _)).mono ?_
            rintro e w5 ⟨rfl, h5, hk5, hs5⟩
            have H5 := Lib.hid h5.live
            have hb5 := (hk5 w3.heap.size rfl).trans HBOX.out
            have b2 := cells_at hb5 2 _ rfl
            simp only [List.getElem_toArray, List.getElem_cons_zero, List.getElem_cons_succ] at b2
            have HS5 := Lib.hid h5.old
            clear h5 hk5 hs5 hb5
            by_cases hE : E = 0
            · subst hE
              have hz : Z = (0, T) := by rw [HTL.out, if_neg (by simp)]
              have HZ3 := Lib.hid hz
              clear hz
              go_wp2_with fail
              all_goals
                go_ret
                rw [HZ3.out]
                exact ⟨rfl, H5.out⟩
            · have hb : (E != 0) = true := by simpa using hE
              have hz : Z = (E, T) := by rw [HTL.out, if_pos hE]
              have HZ3 := Lib.hid hz
              clear hz
              go_wp2_with fail
              go_ret
              rw [HZ3.out]
              exact ⟨rfl, H5.out⟩
          · replace HROW : Hid (∀ X, Below W.heap.size W X → X.cell? ⟨o, 1, none⟩ = some (.pointer (some ⟨bp, 0, none⟩)) ∧ X.cell? ⟨w3.heap.size, 0, none⟩ = some (.int .u8 1) ∧ X.cell? ⟨w3.heap.size, 1, none⟩ = some (.int .i64 n) ∧ X.cell? ⟨w3.heap.size, 2, none⟩ = some (.slice a3 m' c3)) := HROW
            refine wp_region_free [0, 1, 2, 3, 4, 5, 6] 7 (fun W' => Below W.heap.size W W') (by kernel_rfl) (by kernel_rfl) ?_
            change wpYields _ _ _ _ [_, _, _, _, _, _, _] _
            iterate 7 (refine yields_step (fun K hK => ?_); apply Exists.intro; apply And.intro; (apply yields_at rfl; rintro W' hb; obtain ⟨z0, z1, z2, z3⟩ := HROW.out W' hb; go_simp; first | done | rfl); go_simp; refine hK _ ?_; clear hK K)
            refine yields_nil ?_
            refine anyP_leaf (bel_drew _) (by kernel_rfl) ?_
            simp only [List.drop_succ_cons, List.drop_zero]
            go_wp2_with fail
            refine (HPUT.out W.drew (bel_drew _)).mono ?_
            rintro e w5 ⟨rfl, h5, hk5, hs5⟩
            have H5 := Lib.hid h5.live
            have hb5 := (hk5 w3.heap.size rfl).trans HBOX.out
            have b2 := cells_at hb5 2 _ rfl
            simp only [List.getElem_toArray, List.getElem_cons_zero, List.getElem_cons_succ] at b2
            have HS5 := Lib.hid h5.old
            clear h5 hk5 hs5 hb5
            by_cases hE : E = 0
            · subst hE
              have hz : Z = (0, T) := by rw [HTL.out, if_neg (by simp)]
              have HZ3 := Lib.hid hz
              clear hz
              go_wp2_with fail
              all_goals
                go_ret
                rw [HZ3.out]
                exact ⟨rfl, H5.out⟩
            · have hb : (E != 0) = true := by simpa using hE
              have hz : Z = (E, T) := by rw [HTL.out, if_pos hE]
              have HZ3 := Lib.hid hz
              clear hz
              go_wp2_with fail
              go_ret
              rw [HZ3.out]
              exact ⟨rfl, H5.out⟩
        · obtain ⟨b', o', k', hv', hc1, hc2, hc3, hc4⟩ := HR.out.some (by omega)
          cases hv'
          rw [HMM.out, if_neg hm] at htl
          have HTL := Lib.hid htl
          have htkl : (rest.take 1000).length = 1000 := by rw [List.length_take, HMM.out]; omega
          have hcl := oclone_any wr _ (rest.take 1000) (by rw [htkl]; exact reads_take HR.out 1000 (by omega)) (by rw [htkl]; omega)
          rw [htkl] at hcl
          have HTKL := Lib.hid htkl
          have HINR := Lib.hid (show OIn (rest.take 1000) from fun x hx => HIN.out x (List.mem_of_mem_take hx))
          have HCL := Lib.hid hcl
          have hmin : min (m' : Int) 1000 = 1000 := by omega
          have hcap : (1000 : Int) ≤ (vc' : Int) := by omega
          clear hc4 htkl
          clear htl hold hcl
          go_wp2_with fail
          refine HCL.out.mono ?_
          rintro e w3 ⟨v3, rfl, hown3, hb3⟩
          have hov := own_out hown3
          have hrd3 := Reads.own hown3
          obtain ⟨a3, c3, rfl⟩ := hrd3.shape
          obtain ⟨W, hW⟩ : ∃ W, w3.alloc (.cells #[.int .u8 1, .int .i64 n, .slice a3 1000 c3] 142) = W := ⟨_, rfl⟩
          have hbW : Below w3.heap.size w3 W := by rw [← hW]; exact bel_alloc _ _
          have hbox : W.heap[w3.heap.size]? = some (.cells #[.int .u8 1, .int .i64 n, .slice a3 1000 c3] 142) := by rw [← hW]; exact heap_alloc_new w3 _
          have hbl := (Array.getElem?_eq_some_iff.1 hbox).1
          have hs3 := hb3.size
          have hOK := (HH.out.keep.grow (bel_trans hb3 hbW)).less (K' := fun k => (Value.slice a3 1000 c3).ownBlock = some k ∨ k = w3.heap.size) (fun k hk => .inr (by
            rcases hk with hk | hk
            · have := hov k hk; exact ⟨this.1, by omega⟩
            · exact ⟨by omega, by omega⟩))
          obtain ⟨bp, hcell, hput⟩ := oput_live (K := fun k => k = w3.heap.size) p ⟨1, n, rest.take 1000⟩ (.slice a3 1000 c3) hOK (fun k hk e => by have := hov k hk; omega) HF.out (by omega) (by rw [show (ORec.mk 1 n (rest.take 1000)).l.length = 1000 from HTKL.out]; exact hrd3.below hbW)
            (fun k hk => ⟨HH.out.old.fresh (hov k hk).1, by obtain ⟨h1, h2, cur, h3⟩ := hov k hk; exact ⟨cur, (hbW.block k h2).trans h3⟩⟩) hn HINR.out (show (rest.take 1000).length ≤ 1000 by rw [HTKL.out]; omega) 1 (show (((1 : UInt8).toNat : Nat) : Int) = 1 by decide)
          have hcl2 := fun X hX => hcell X hX
          rw [← HIPN.out] at hcl2
          have HROW := Lib.hid (fun (X : World) (hX : Below W.heap.size W X) => And.intro (hcl2 X hX) (And.intro ((World.cell?_of_block (a := ⟨w3.heap.size, 0, none⟩) (hX.block w3.heap.size hbl)).trans (cells_at hbox 0 _ rfl)) (And.intro ((World.cell?_of_block (a := ⟨w3.heap.size, 1, none⟩) (hX.block w3.heap.size hbl)).trans (cells_at hbox 1 _ rfl)) ((World.cell?_of_block (a := ⟨w3.heap.size, 2, none⟩) (hX.block w3.heap.size hbl)).trans (cells_at hbox 2 _ rfl)))))
          have HPUT := Lib.hid hput
          have HBOX := Lib.hid hbox
          have HW := Lib.hid hW
          have HFP := Lib.hid (HF.out.put p ⟨1, n, rest.take 1000⟩ (show (rest.take 1000).length ≤ 1000 by rw [HTKL.out]; omega))
          obtain ⟨E, T, hET⟩ : ∃ E T, S'.put p ⟨1, n, rest.take 1000⟩ = (E, T) := ⟨_, _, rfl⟩
          rw [hET] at HPUT HTL HFP
          unfold ptr at HROW HPUT
          simp only [List.getElem_toArray, List.getElem_cons_zero, List.getElem_cons_succ] at HROW
          clear hown3 hb3 hov hrd3 hW hbW hbox hbl hs3 hOK hcell hput hcl2 hET
          go_upto_region 6 with fail
          rw [HW.out]
          rcases hipp with rfl | rfl
          · replace HROW : Hid (∀ X, Below W.heap.size W X → X.cell? ⟨o, 0, none⟩ = some (.pointer (some ⟨bp, 0, none⟩)) ∧ X.cell? ⟨w3.heap.size, 0, none⟩ = some (.int .u8 1) ∧ X.cell? ⟨w3.heap.size, 1, none⟩ = some (.int .i64 n) ∧ X.cell? ⟨w3.heap.size, 2, none⟩ = some (.slice a3 1000 c3)) := HROW
            refine wp_region_free [0, 1, 2, 3, 4, 5, 6] 7 (fun W' => Below W.heap.size W W') (by kernel_rfl) (by kernel_rfl) ?_
            change wpYields _ _ _ _ [_, _, _, _, _, _, _] _
            iterate 7 (refine yields_step (fun K hK => ?_); apply Exists.intro; apply And.intro; (apply yields_at rfl; rintro W' hb; obtain ⟨z0, z1, z2, z3⟩ := HROW.out W' hb; go_simp; first | done | rfl); go_simp; refine hK _ ?_; clear hK K)
            refine yields_nil ?_
            refine anyP_leaf (bel_drew _) (by kernel_rfl) ?_
            simp only [List.drop_succ_cons, List.drop_zero]
            go_wp2_with fail
            refine (HPUT.out W.drew (bel_drew _)).mono ?_
            rintro e w5 ⟨rfl, h5, hk5, hs5⟩
            have H5 := Lib.hid h5.live
            have hb5 := (hk5 w3.heap.size rfl).trans HBOX.out
            have b2 := cells_at hb5 2 _ rfl
            simp only [List.getElem_toArray, List.getElem_cons_zero, List.getElem_cons_succ] at b2
            have HS5 := Lib.hid h5.old
            clear h5 hk5 hs5 hb5
            by_cases hE : E = 0
            · subst hE
              have hz : Z = OSt.tells p n ((m' - 1000) / 1000 + 1) T (rest.drop 1000) := by rw [HTL.out, if_neg (by simp), show m' / 1000 = (m' - 1000) / 1000 + 1 by omega]
              have HZ3 := Lib.hid hz
              clear hz
              have hrd := reads_drop (HPR.out w5 HS5.out HR.out) 1000 (by omega) (by omega)
              have HRD5 := Lib.hid hrd
              clear hrd
              go_wp2_with fail
              go_roundw
              case rel => exact ⟨T, rest.drop 1000, j' + 1, m' - 1000, some ⟨b', o' + 2000, none⟩, vc' - 1000, rfl, Lib.hid (by rw [List.length_drop, HMM.out]), HZ3, H5, HFP, by omega, HRD5, Lib.hid (fun g hg _ => HVK.out g hg (by omega)), Lib.hid (fun x hx => HIN.out x (List.mem_of_mem_drop hx)), by omega⟩
              case measure => simp [lenOf]; omega
            · have hb : (E != 0) = true := by simpa using hE
              have hz : Z = (E, T) := by rw [HTL.out, if_pos hE]
              have HZ3 := Lib.hid hz
              clear hz
              go_wp2_with fail
              go_ret
              rw [HZ3.out]
              exact ⟨rfl, H5.out⟩
          · replace HROW : Hid (∀ X, Below W.heap.size W X → X.cell? ⟨o, 1, none⟩ = some (.pointer (some ⟨bp, 0, none⟩)) ∧ X.cell? ⟨w3.heap.size, 0, none⟩ = some (.int .u8 1) ∧ X.cell? ⟨w3.heap.size, 1, none⟩ = some (.int .i64 n) ∧ X.cell? ⟨w3.heap.size, 2, none⟩ = some (.slice a3 1000 c3)) := HROW
            refine wp_region_free [0, 1, 2, 3, 4, 5, 6] 7 (fun W' => Below W.heap.size W W') (by kernel_rfl) (by kernel_rfl) ?_
            change wpYields _ _ _ _ [_, _, _, _, _, _, _] _
            iterate 7 (refine yields_step (fun K hK => ?_); apply Exists.intro; apply And.intro; (apply yields_at rfl; rintro W' hb; obtain ⟨z0, z1, z2, z3⟩ := HROW.out W' hb; go_simp; first | done | rfl); go_simp; refine hK _ ?_; clear hK K)
            refine yields_nil ?_
            refine anyP_leaf (bel_drew _) (by kernel_rfl) ?_
            simp only [List.drop_succ_cons, List.drop_zero]
            go_wp2_with fail
            refine (HPUT.out W.drew (bel_drew _)).mono ?_
            rintro e w5 ⟨rfl, h5, hk5, hs5⟩
            have H5 := Lib.hid h5.live
            have hb5 := (hk5 w3.heap.size rfl).trans HBOX.out
            have b2 := cells_at hb5 2 _ rfl
            simp only [List.getElem_toArray, List.getElem_cons_zero, List.getElem_cons_succ] at b2
            have HS5 := Lib.hid h5.old
            clear h5 hk5 hs5 hb5
            by_cases hE : E = 0
            · subst hE
              have hz : Z = OSt.tells p n ((m' - 1000) / 1000 + 1) T (rest.drop 1000) := by rw [HTL.out, if_neg (by simp), show m' / 1000 = (m' - 1000) / 1000 + 1 by omega]
              have HZ3 := Lib.hid hz
              clear hz
              have hrd := reads_drop (HPR.out w5 HS5.out HR.out) 1000 (by omega) (by omega)
              have HRD5 := Lib.hid hrd
              clear hrd
              go_wp2_with fail
              go_roundw
              case rel => exact ⟨T, rest.drop 1000, j' + 1, m' - 1000, some ⟨b', o' + 2000, none⟩, vc' - 1000, rfl, Lib.hid (by rw [List.length_drop, HMM.out]), HZ3, H5, HFP, by omega, HRD5, Lib.hid (fun g hg _ => HVK.out g hg (by omega)), Lib.hid (fun x hx => HIN.out x (List.mem_of_mem_drop hx)), by omega⟩
              case measure => simp [lenOf]; omega
            · have hb : (E != 0) = true := by simpa using hE
              have hz : Z = (E, T) := by rw [HTL.out, if_pos hE]
              have HZ3 := Lib.hid hz
              clear hz
              go_wp2_with fail
              go_ret
              rw [HZ3.out]
              exact ⟨rfl, H5.out⟩


end Go.Proofs.Ytllecjhfbojgcaa
