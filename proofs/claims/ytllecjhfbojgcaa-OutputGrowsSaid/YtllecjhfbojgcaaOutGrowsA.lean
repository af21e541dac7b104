/-
  OutputGrows: Tell, what counts, the calls that came in, Heavy and begins, and what lies in memory. Joined by wip/mkgrowsa.py.
-/
import Derived.Test.YtllecjhfbojgcaaOutTell
import Derived.Test.YtllecjhfbojgcaaOutCrash
import Derived.Test.YtllecjhfbojgcaaArgsOut
import Derived.ProofKit
import Derived.Deep.Slices
import Derived.Deep.Fields
import Derived.ChangeSame
import Derived.ShutString
namespace Go.Proofs.Ytllecjhfbojgcaa
open Go.RowKit
set_option maxRecDepth 20000

set_option maxHeartbeats 16000000 in
set_option maxRecDepth 100000 in
theorem otell_e {fr : Fr} {w : World} {o d : Nat} {S : OSt} {j : Nat} (h : OutLive fr w o d S) (hf : OFit j S) (hj : j ≤ 30000) (p : Bool) (n : Int) (hn : Cl.In64 n) (v : Value) (l : List OutX) (hr : Reads w v l.length (outCells l)) (hvK : ∀ g, v.ownBlock = some g → 0 < l.length → fr.K g) (hin : OIn l) (hl : l.length ≤ 5000) :
    Calls Try.prog 36 #[ptr o 0, .int .i64 (iP p), .int .i64 n, v] w fun e w' => e = .returned (.int .i64 (S.tell p n l).1) ∧ OutLive fr w' o d (S.tell p n l).2 := by
  have hT := told_any h p
  have HM := Lib.hid (fun (X : World) (hX : Below w.heap.size w X) => marked_any (h.below hX) p)
  have hcp : decide (0 ≤ iP p) = true ∧ decide (iP p < 2) = true := by cases p <;> decide
  have his := is_some o (iP p) w
  rw [hcp.1, hcp.2] at his
  have HZ := Lib.hid (show S.tell p n l = if n ≤ lastO (S.r p) 1 ∨ n ≤ lastO (S.r p) 2 then (2, S) else OSt.tells p n (l.length / 1000 + 1) S l from rfl)
  obtain ⟨Z, hZ⟩ : ∃ Z, S.tell p n l = Z := ⟨_, rfl⟩
  rw [hZ] at HZ ⊢
  obtain ⟨A, hA⟩ : ∃ A, lastO (S.r p) 1 = A := ⟨_, rfl⟩
  obtain ⟨B, hB⟩ : ∃ B, lastO (S.r p) 2 = B := ⟨_, rfl⟩
  rw [hA] at hT HZ
  rw [hB] at HM HZ
  obtain ⟨ip, hip⟩ : ∃ i, iP p = i := ⟨_, rfl⟩
  have hipp : ip = 0 ∨ ip = 1 := by rw [← hip]; cases p <;> simp [iP]
  rw [hip] at hT HM his ⊢
  have HIP := Lib.hid hip
  have HT := Lib.hid hT
  have HS := Lib.hid his
  have HH := Lib.hid h
  have HR := Lib.hid hr
  have HF := Lib.hid hf
  have HIN := Lib.hid hin
  have HVK := Lib.hid hvK
  unfold ptr at HT HM HS ⊢
  clear h hf hr hvK hin hT his hZ hA hB hcp hip
  obtain ⟨va, vc, rfl⟩ := HR.out.shape
  obtain ⟨m, hmm⟩ : ∃ m, l.length = m := ⟨_, rfl⟩
  have HMM := Lib.hid hmm
  rw [hmm] at HR hl HZ HVK ⊢
  clear hmm
  by_cases c1 : n ≤ A
  · have hz : Z = (2, S) := by rw [HZ.out, if_pos (.inl c1)]
    have HZ2 := Lib.hid hz
    clear hz
    go_enter Try.func36, Try.ntmps36
    go_wp2_with fail
    refine HS.out.mono ?_
    rintro e w1 ⟨rfl, rfl⟩
    go_wp2_with fail
    refine HT.out.mono ?_
    rintro e w1 ⟨rfl, hb1⟩
    have HB1 := Lib.hid hb1
    clear hb1
    go_wp2_with fail
    go_ret
    rw [HZ2.out]
    exact ⟨rfl, HH.out.below HB1.out⟩
  · have d1 : ¬ n ≤ A := c1
    by_cases c2 : n ≤ B
    · have hz : Z = (2, S) := by rw [HZ.out, if_pos (.inr c2)]
      have HZ2 := Lib.hid hz
      clear hz
      go_enter Try.func36, Try.ntmps36
      go_wp2_with fail
      refine HS.out.mono ?_
      rintro e w1 ⟨rfl, rfl⟩
      go_wp2_with fail
      refine HT.out.mono ?_
      rintro e w1 ⟨rfl, hb1⟩
      have HB1 := Lib.hid hb1
      clear hb1
      go_wp2_with fail
      refine (HM.out w1 HB1.out).mono ?_
      rintro e w2 ⟨rfl, hb2⟩
      have HB2 := Lib.hid (bel_trans HB1.out hb2)
      clear hb2
      go_wp2_with fail
      go_ret
      rw [HZ2.out]
      exact ⟨rfl, HH.out.below HB2.out⟩
    · have hz : Z = OSt.tells p n (m / 1000 + 1) S l := by rw [HZ.out, if_neg (by omega)]
      have HZ2 := Lib.hid hz
      clear hz
      go_enter Try.func36, Try.ntmps36
      go_wp2_with fail
      refine HS.out.mono ?_
      rintro e w1 ⟨rfl, rfl⟩
      go_wp2_with fail
      refine HT.out.mono ?_
      rintro e w1 ⟨rfl, hb1⟩
      have HB1 := Lib.hid hb1
      clear hb1
      go_wp2_with fail
      refine (HM.out w1 HB1.out).mono ?_
      rintro e w2 ⟨rfl, hb2⟩
      have HH2 := Lib.hid (HH.out.below (bel_trans HB1.out hb2))
      have HR2 := Lib.hid (HR.out.below (bel_trans HB1.out hb2))
      clear hb2
      go_wp2_with fail
      go_loopw [3] (fun lv wr => ∃ (S' : OSt) (rest : List OutX) (j' m' : Nat) (va' : Option Addr) (vc' : Nat), lv = .slice va' m' vc' ∧ Hid (rest.length = m') ∧ Hid (Z = OSt.tells p n (m' / 1000 + 1) S' rest) ∧ Hid (OutLive fr wr o d S') ∧ Hid (OFit j' S') ∧ j' + m' / 1000 ≤ 30010 ∧ Hid (Reads wr (.slice va' m' vc') m' (outCells rest)) ∧ Hid (∀ g, (Value.slice va' m' vc').ownBlock = some g → 0 < m' → fr.K g) ∧ Hid (OIn rest) ∧ m' ≤ 5000) (fun lv _ => lenOf lv)
      case atStart => exact ⟨S, l, j, m, va, vc, rfl, HMM, HZ2, HH2, HF, by omega, HR2, HVK, HIN, hl⟩
      case round =>
        clear HZ HH HF HR HIN HVK HM HT HS HB1 HH2 HR2 HMM HZ2 hl hj
        obtain ⟨S', rest, j', m', va', vc', rfl, HMM, HZ, HH, HF, hj, HR, HVK, HIN, hl⟩ := hrel
        have htl := HZ.out
        rw [tells_step] at htl
        have hold := HH.out.old
        have hpr : ∀ (X : World), Since fr X → Reads wr (.slice va' m' vc') m' (outCells rest) → Reads X (.slice va' m' vc') m' (outCells rest) := fun X hX hx => by
          by_cases hm0 : m' = 0
          · have hr0 : rest = [] := List.eq_nil_of_length_eq_zero (by rw [HMM.out]; exact hm0)
            subst hr0
            subst hm0
            exact .inl ⟨_, _, rfl, rfl, rfl⟩
          · rcases hx with ⟨_, _, h1, h2, h3⟩ | ⟨b, o, k, h1, h2, h3, h4, h5⟩
            · exact absurd h2 hm0
            · cases h1
              have hk := HVK.out b rfl (by omega)
              exact .inr ⟨b, o, _, rfl, h2, h3, Nat.lt_of_lt_of_le (fr.lt b hk) hX.size, fun i u hu => (World.cell?_of_block ((hX.block b hk).trans (hold.block b hk).symm)).trans (h5 i u hu)⟩
        have HPR := Lib.hid (fun (X : World) (hX : Since fr X) (hx : Reads wr (.slice va' m' vc') m' (outCells rest)) => hpr X hX hx)
        have HIPN := Lib.hid (show ip.toNat = (if p then 1 else 0) by rw [← HIP.out]; cases p <;> rfl)
        clear hpr
        by_cases hm : m' ≤ 1000
        · have htk : rest.take 1000 = rest := List.take_of_length_le (by rw [HMM.out]; exact hm)
          rw [htk, HMM.out, if_pos hm] at htl
          have HTL := Lib.hid htl
          clear htk
          have hcl := oclone_any wr _ rest (by rw [HMM.out]; exact HR.out) (by rw [HMM.out]; omega)
          rw [HMM.out] at hcl
          have HCL := Lib.hid hcl
          have hmin : min (m' : Int) 1000 = (m' : Int) := by omega
          have hcap : (m' : Int) ≤ (vc' : Int) := by have := reads_cap HR.out; omega
          have HTKL := HMM
          have HINR := HIN
          clear htl hold hcl
          go_wp2_with fail
          refine HCL.out.mono ?_
          rintro e w3 ⟨v3, rfl, hown3, hb3⟩
          have hov := own_out hown3
          have hrd3 := Reads.own hown3
          obtain ⟨a3, c3, rfl⟩ := hrd3.shape
          obtain ⟨W, hW⟩ : ∃ W, w3.alloc (.cells #[.int .u8 1, .int .i64 n, .slice a3 m' c3] 142) = W := ⟨_, rfl⟩
          have hbW : Below w3.heap.size w3 W := by rw [← hW]; exact bel_alloc _ _
          have hbox : W.heap[w3.heap.size]? = some (.cells #[.int .u8 1, .int .i64 n, .slice a3 m' c3] 142) := by rw [← hW]; exact heap_alloc_new w3 _
          have hbl := (Array.getElem?_eq_some_iff.1 hbox).1
          have hs3 := hb3.size
          have hOK := (HH.out.keep.grow (bel_trans hb3 hbW)).less (K' := fun k => (Value.slice a3 m' c3).ownBlock = some k ∨ k = w3.heap.size) (fun k hk => .inr (by
            rcases hk with hk | hk
            · have := hov k hk; exact ⟨this.1, by omega⟩
            · exact ⟨by omega, by omega⟩))
          obtain ⟨bp, hcell, hput⟩ := oput_live (K := fun k => k = w3.heap.size) p ⟨1, n, rest⟩ (.slice a3 m' c3) hOK (fun k hk e => by have := hov k hk; omega) HF.out (by omega) (by rw [show (ORec.mk 1 n (rest)).l.length = m' from HTKL.out]; exact hrd3.below hbW)
            (fun k hk => ⟨HH.out.old.fresh (hov k hk).1, by obtain ⟨h1, h2, cur, h3⟩ := hov k hk; exact ⟨cur, (hbW.block k h2).trans h3⟩⟩) hn HINR.out (show (rest).length ≤ 1000 by rw [HTKL.out]; omega) 1 (show (((1 : UInt8).toNat : Nat) : Int) = 1 by decide)
          have hcl2 := fun X hX => hcell X hX
          rw [← HIPN.out] at hcl2
          have HROW := Lib.hid (fun (X : World) (hX : Below W.heap.size W X) => And.intro (hcl2 X hX) (And.intro ((World.cell?_of_block (a := ⟨w3.heap.size, 0, none⟩) (hX.block w3.heap.size hbl)).trans (cells_at hbox 0 _ rfl)) (And.intro ((World.cell?_of_block (a := ⟨w3.heap.size, 1, none⟩) (hX.block w3.heap.size hbl)).trans (cells_at hbox 1 _ rfl)) ((World.cell?_of_block (a := ⟨w3.heap.size, 2, none⟩) (hX.block w3.heap.size hbl)).trans (cells_at hbox 2 _ rfl)))))
          have HPUT := Lib.hid hput
          have HBOX := Lib.hid hbox
          have HW := Lib.hid hW
          have HFP := Lib.hid (HF.out.put p ⟨1, n, rest⟩ (show (rest).length ≤ 1000 by rw [HTKL.out]; omega))
          obtain ⟨E, T, hET⟩ : ∃ E T, S'.put p ⟨1, n, rest⟩ = (E, T) := ⟨_, _, rfl⟩
          rw [hET] at HPUT HTL HFP
          unfold ptr at HROW HPUT
          simp only [List.getElem_toArray, List.getElem_cons_zero, List.getElem_cons_succ] at HROW
          clear hown3 hb3 hov hrd3 hW hbW hbox hbl hs3 hOK hcell hput hcl2 hET
          go_upto_region 6 with fail
          rw [HW.out]
          rcases hipp with rfl | rfl
          · replace HROW : Hid (∀ X, Below W.heap.size W X → X.cell? ⟨o, 0, none⟩ = some (.pointer (some ⟨bp, 0, none⟩)) ∧ X.cell? ⟨w3.heap.size, 0, none⟩ = some (.int .u8 1) ∧ X.cell? ⟨w3.heap.size, 1, none⟩ = some (.int .i64 n) ∧ X.cell? ⟨w3.heap.size, 2, none⟩ = some (.slice a3 m' c3)) := HROW
            refine wp_region_free [0, 1, 2, 3, 4, 5, 6] 7 (fun W' => Below W.heap.size W W') (by kernel_rfl) (by kernel_rfl) ?_
            change wpYields _ _ _ _ [_, _, _, _, _, _, _] _
            iterate 7 (refine yields_step (fun K hK => ?_); apply Exists.intro; apply And.intro; (apply yields_at rfl; rintro W' hb; obtain ⟨z0, z1, z2, z3⟩ := HROW.out W' hb; go_simp; first | done | rfl); go_simp; refine hK _ ?_; clear hK K)
            refine yields_nil ?_
            refine anyP_leaf (bel_drew _) (by kernel_rfl) ?_
            simp only [List.drop_succ_cons, List.drop_zero]
            go_wp2_with fail
            refine (HPUT.out W.drew (bel_drew _)).mono ?_
            rintro e w5 ⟨rfl, h5, hk5, hs5⟩
            have H5 := Lib.hid h5.live
            have hb5 := (hk5 w3.heap.size rfl).trans HBOX.out
            have b2 := cells_at hb5 2 _ rfl
            simp only [List.getElem_toArray, List.getElem_cons_zero, List.getElem_cons_succ] at b2
            have HS5 := Lib.hid h5.old
            clear h5 hk5 hs5 hb5
            by_cases hE : E = 0
            · subst hE
              have hz : Z = (0, T) := by rw [HTL.out, if_neg (by simp)]
              have HZ3 := Lib.hid hz
              clear hz
              go_wp2_with fail
              all_goals
                go_ret
                rw [HZ3.out]
                exact ⟨rfl, H5.out⟩
            · have hb : (E != 0) = true := by simpa using hE
              have hz : Z = (E, T) := by rw [HTL.out, if_pos hE]
              have HZ3 := Lib.hid hz
              clear hz
              go_wp2_with fail
              go_ret
              rw [HZ3.out]
              exact ⟨rfl, H5.out⟩
          · replace HROW : Hid (∀ X, Below W.heap.size W X → X.cell? ⟨o, 1, none⟩ = some (.pointer (some ⟨bp, 0, none⟩)) ∧ X.cell? ⟨w3.heap.size, 0, none⟩ = some (.int .u8 1) ∧ X.cell? ⟨w3.heap.size, 1, none⟩ = some (.int .i64 n) ∧ X.cell? ⟨w3.heap.size, 2, none⟩ = some (.slice a3 m' c3)) := HROW
            refine wp_region_free [0, 1, 2, 3, 4, 5, 6] 7 (fun W' => Below W.heap.size W W') (by kernel_rfl) (by kernel_rfl) ?_
            change wpYields _ _ _ _ [_, _, _, _, _, _, _] _
            iterate 7 (refine yields_step (fun K hK => ?_); apply Exists.intro; apply And.intro; (apply yields_at rfl; rintro W' hb; obtain ⟨z0, z1, z2, z3⟩ := HROW.out W' hb; go_simp; first | done | rfl); go_simp; refine hK _ ?_; clear hK K)
            refine yields_nil ?_
            refine anyP_leaf (bel_drew _) (by kernel_rfl) ?_
            simp only [List.drop_succ_cons, List.drop_zero]
            go_wp2_with fail
            refine (HPUT.out W.drew (bel_drew _)).mono ?_
            rintro e w5 ⟨rfl, h5, hk5, hs5⟩
            have H5 := Lib.hid h5.live
            have hb5 := (hk5 w3.heap.size rfl).trans HBOX.out
            have b2 := cells_at hb5 2 _ rfl
            simp only [List.getElem_toArray, List.getElem_cons_zero, List.getElem_cons_succ] at b2
            have HS5 := Lib.hid h5.old
            clear h5 hk5 hs5 hb5
            by_cases hE : E = 0
            · subst hE
              have hz : Z = (0, T) := by rw [HTL.out, if_neg (by simp)]
              have HZ3 := Lib.hid hz
              clear hz
              go_wp2_with fail
              all_goals
                go_ret
                rw [HZ3.out]
                exact ⟨rfl, H5.out⟩
            · have hb : (E != 0) = true := by simpa using hE
              have hz : Z = (E, T) := by rw [HTL.out, if_pos hE]
              have HZ3 := Lib.hid hz
              clear hz
              go_wp2_with fail
              go_ret
              rw [HZ3.out]
              exact ⟨rfl, H5.out⟩
        · obtain ⟨b', o', k', hv', hc1, hc2, hc3, hc4⟩ := HR.out.some (by omega)
          cases hv'
          rw [HMM.out, if_neg hm] at htl
          have HTL := Lib.hid htl
          have htkl : (rest.take 1000).length = 1000 := by rw [List.length_take, HMM.out]; omega
          have hcl := oclone_any wr _ (rest.take 1000) (by rw [htkl]; exact reads_take HR.out 1000 (by omega)) (by rw [htkl]; omega)
          rw [htkl] at hcl
          have HTKL := Lib.hid htkl
          have HINR := Lib.hid (show OIn (rest.take 1000) from fun x hx => HIN.out x (List.mem_of_mem_take hx))
          have HCL := Lib.hid hcl
          have hmin : min (m' : Int) 1000 = 1000 := by omega
          have hcap : (1000 : Int) ≤ (vc' : Int) := by omega
          clear hc4 htkl
          clear htl hold hcl
          go_wp2_with fail
          refine HCL.out.mono ?_
          rintro e w3 ⟨v3, rfl, hown3, hb3⟩
          have hov := own_out hown3
          have hrd3 := Reads.own hown3
          obtain ⟨a3, c3, rfl⟩ := hrd3.shape
          obtain ⟨W, hW⟩ : ∃ W, w3.alloc (.cells #[.int .u8 1, .int .i64 n, .slice a3 1000 c3] 142) = W := ⟨_, rfl⟩
          have hbW : Below w3.heap.size w3 W := by rw [← hW]; exact bel_alloc _ _
          have hbox : W.heap[w3.heap.size]? = some (.cells #[.int .u8 1, .int .i64 n, .slice a3 1000 c3] 142) := by rw [← hW]; exact heap_alloc_new w3 _
          have hbl := (Array.getElem?_eq_some_iff.1 hbox).1
          have hs3 := hb3.size
          have hOK := (HH.out.keep.grow (bel_trans hb3 hbW)).less (K' := fun k => (Value.slice a3 1000 c3).ownBlock = some k ∨ k = w3.heap.size) (fun k hk => .inr (by
            rcases hk with hk | hk
            · have := hov k hk; exact ⟨this.1, by omega⟩
            · exact ⟨by omega, by omega⟩))
          obtain ⟨bp, hcell, hput⟩ := oput_live (K := fun k => k = w3.heap.size) p ⟨1, n, rest.take 1000⟩ (.slice a3 1000 c3) hOK (fun k hk e => by have := hov k hk; omega) HF.out (by omega) (by rw [show (ORec.mk 1 n (rest.take 1000)).l.length = 1000 from HTKL.out]; exact hrd3.below hbW)
            (fun k hk => ⟨HH.out.old.fresh (hov k hk).1, by obtain ⟨h1, h2, cur, h3⟩ := hov k hk; exact ⟨cur, (hbW.block k h2).trans h3⟩⟩) hn HINR.out (show (rest.take 1000).length ≤ 1000 by rw [HTKL.out]; omega) 1 (show (((1 : UInt8).toNat : Nat) : Int) = 1 by decide)
          have hcl2 := fun X hX => hcell X hX
          rw [← HIPN.out] at hcl2
          have HROW := Lib.hid (fun (X : World) (hX : Below W.heap.size W X) => And.intro (hcl2 X hX) (And.intro ((World.cell?_of_block (a := ⟨w3.heap.size, 0, none⟩) (hX.block w3.heap.size hbl)).trans (cells_at hbox 0 _ rfl)) (And.intro ((World.cell?_of_block (a := ⟨w3.heap.size, 1, none⟩) (hX.block w3.heap.size hbl)).trans (cells_at hbox 1 _ rfl)) ((World.cell?_of_block (a := ⟨w3.heap.size, 2, none⟩) (hX.block w3.heap.size hbl)).trans (cells_at hbox 2 _ rfl)))))
          have HPUT := Lib.hid hput
          have HBOX := Lib.hid hbox
          have HW := Lib.hid hW
          have HFP := Lib.hid (HF.out.put p ⟨1, n, rest.take 1000⟩ (show (rest.take 1000).length ≤ 1000 by rw [HTKL.out]; omega))
          obtain ⟨E, T, hET⟩ : ∃ E T, S'.put p ⟨1, n, rest.take 1000⟩ = (E, T) := ⟨_, _, rfl⟩
          rw [hET] at HPUT HTL HFP
          unfold ptr at HROW HPUT
          simp only [List.getElem_toArray, List.getElem_cons_zero, List.getElem_cons_succ] at HROW
          clear hown3 hb3 hov hrd3 hW hbW hbox hbl hs3 hOK hcell hput hcl2 hET
          go_upto_region 6 with fail
          rw [HW.out]
          rcases hipp with rfl | rfl
          · replace HROW : Hid (∀ X, Below W.heap.size W X → X.cell? ⟨o, 0, none⟩ = some (.pointer (some ⟨bp, 0, none⟩)) ∧ X.cell? ⟨w3.heap.size, 0, none⟩ = some (.int .u8 1) ∧ X.cell? ⟨w3.heap.size, 1, none⟩ = some (.int .i64 n) ∧ X.cell? ⟨w3.heap.size, 2, none⟩ = some (.slice a3 1000 c3)) := HROW
            refine wp_region_free [0, 1, 2, 3, 4, 5, 6] 7 (fun W' => Below W.heap.size W W') (by kernel_rfl) (by kernel_rfl) ?_
            change wpYields _ _ _ _ [_, _, _, _, _, _, _] _
            iterate 7 (refine yields_step (fun K hK => ?_); apply Exists.intro; apply And.intro; (apply yields_at rfl; rintro W' hb; obtain ⟨z0, z1, z2, z3⟩ := HROW.out W' hb; go_simp; first | done | rfl); go_simp; refine hK _ ?_; clear hK K)
            refine yields_nil ?_
            refine anyP_leaf (bel_drew _) (by kernel_rfl) ?_
            simp only [List.drop_succ_cons, List.drop_zero]
            go_wp2_with fail
            refine (HPUT.out W.drew (bel_drew _)).mono ?_
            rintro e w5 ⟨rfl, h5, hk5, hs5⟩
            have H5 := Lib.hid h5.live
            have hb5 := (hk5 w3.heap.size rfl).trans HBOX.out
            have b2 := cells_at hb5 2 _ rfl
            simp only [List.getElem_toArray, List.getElem_cons_zero, List.getElem_cons_succ] at b2
            have HS5 := Lib.hid h5.old
            clear h5 hk5 hs5 hb5
            by_cases hE : E = 0
            · subst hE
              have hz : Z = OSt.tells p n ((m' - 1000) / 1000 + 1) T (rest.drop 1000) := by rw [HTL.out, if_neg (by simp), show m' / 1000 = (m' - 1000) / 1000 + 1 by omega]
              have HZ3 := Lib.hid hz
              clear hz
              have hrd := reads_drop (HPR.out w5 HS5.out HR.out) 1000 (by omega) (by omega)
              have HRD5 := Lib.hid hrd
              clear hrd
              go_wp2_with fail
              go_roundw
              case rel => exact ⟨T, rest.drop 1000, j' + 1, m' - 1000, some ⟨b', o' + 2000, none⟩, vc' - 1000, rfl, Lib.hid (by rw [List.length_drop, HMM.out]), HZ3, H5, HFP, by omega, HRD5, Lib.hid (fun g hg _ => HVK.out g hg (by omega)), Lib.hid (fun x hx => HIN.out x (List.mem_of_mem_drop hx)), by omega⟩
              case measure => simp [lenOf]; omega
            · have hb : (E != 0) = true := by simpa using hE
              have hz : Z = (E, T) := by rw [HTL.out, if_pos hE]
              have HZ3 := Lib.hid hz
              clear hz
              go_wp2_with fail
              go_ret
              rw [HZ3.out]
              exact ⟨rfl, H5.out⟩
          · replace HROW : Hid (∀ X, Below W.heap.size W X → X.cell? ⟨o, 1, none⟩ = some (.pointer (some ⟨bp, 0, none⟩)) ∧ X.cell? ⟨w3.heap.size, 0, none⟩ = some (.int .u8 1) ∧ X.cell? ⟨w3.heap.size, 1, none⟩ = some (.int .i64 n) ∧ X.cell? ⟨w3.heap.size, 2, none⟩ = some (.slice a3 1000 c3)) := HROW
            refine wp_region_free [0, 1, 2, 3, 4, 5, 6] 7 (fun W' => Below W.heap.size W W') (by kernel_rfl) (by kernel_rfl) ?_
            change wpYields _ _ _ _ [_, _, _, _, _, _, _] _
            iterate 7 (refine yields_step (fun K hK => ?_); apply Exists.intro; apply And.intro; (apply yields_at rfl; rintro W' hb; obtain ⟨z0, z1, z2, z3⟩ := HROW.out W' hb; go_simp; first | done | rfl); go_simp; refine hK _ ?_; clear hK K)
            refine yields_nil ?_
            refine anyP_leaf (bel_drew _) (by kernel_rfl) ?_
            simp only [List.drop_succ_cons, List.drop_zero]
            go_wp2_with fail
            refine (HPUT.out W.drew (bel_drew _)).mono ?_
            rintro e w5 ⟨rfl, h5, hk5, hs5⟩
            have H5 := Lib.hid h5.live
            have hb5 := (hk5 w3.heap.size rfl).trans HBOX.out
            have b2 := cells_at hb5 2 _ rfl
            simp only [List.getElem_toArray, List.getElem_cons_zero, List.getElem_cons_succ] at b2
            have HS5 := Lib.hid h5.old
            clear h5 hk5 hs5 hb5
            by_cases hE : E = 0
            · subst hE
              have hz : Z = OSt.tells p n ((m' - 1000) / 1000 + 1) T (rest.drop 1000) := by rw [HTL.out, if_neg (by simp), show m' / 1000 = (m' - 1000) / 1000 + 1 by omega]
              have HZ3 := Lib.hid hz
              clear hz
              have hrd := reads_drop (HPR.out w5 HS5.out HR.out) 1000 (by omega) (by omega)
              have HRD5 := Lib.hid hrd
              clear hrd
              go_wp2_with fail
              go_roundw
              case rel => exact ⟨T, rest.drop 1000, j' + 1, m' - 1000, some ⟨b', o' + 2000, none⟩, vc' - 1000, rfl, Lib.hid (by rw [List.length_drop, HMM.out]), HZ3, H5, HFP, by omega, HRD5, Lib.hid (fun g hg _ => HVK.out g hg (by omega)), Lib.hid (fun x hx => HIN.out x (List.mem_of_mem_drop hx)), by omega⟩
              case measure => simp [lenOf]; omega
            · have hb : (E != 0) = true := by simpa using hE
              have hz : Z = (E, T) := by rw [HTL.out, if_pos hE]
              have HZ3 := Lib.hid hz
              clear hz
              go_wp2_with fail
              go_ret
              rw [HZ3.out]
              exact ⟨rfl, H5.out⟩


end Go.Proofs.Ytllecjhfbojgcaa

namespace Go.Proofs.Ytllecjhfbojgcaa
open Go.RowKit
set_option maxRecDepth 20000

theorem takes_le {rs : List ORec} {r : ORec} (h : takesO rs r = true) : lastO rs 1 ≤ r.n ∧ lastO rs 2 < r.n := by
  unfold takesO at h
  split at h
  · simp only [Bool.and_eq_true, decide_eq_true_eq] at h
    exact h.1
  · simp only [Bool.and_eq_true, decide_eq_true_eq] at h
    exact ⟨h.2, h.1⟩
theorem OValid.init {rs t : List ORec} (h : OValid (rs ++ t)) : OValid rs := by
  have := h.take rs.length
  rwa [List.take_left' rfl] at this
theorem OValid.last {rs : List ORec} {r : ORec} (h : OValid (rs ++ [r])) : takesO rs r = true ∧ OGood r ∧ 1 ≤ r.n ∧ (r.kind = 2 → r.l = []) := by
  have h1 := h.takes rs.length r (by rw [List.getElem?_append_right (Nat.le_refl _), Nat.sub_self]; rfl)
  rw [List.take_left' rfl] at h1
  exact ⟨h1, h.good r (by simp)⟩
theorem snocInd {α : Type} {P : List α → Prop} (h0 : P []) (h1 : ∀ l a, P l → P (l ++ [a])) : ∀ l, P l := fun l => by
  have : ∀ n (l : List α), l.length = n → P l := by
    intro n
    induction n with
    | zero => intro l hl; rw [List.eq_nil_of_length_eq_zero hl]; exact h0
    | succ n ih =>
      intro l hl
      have hne : l ≠ [] := fun e => by rw [e] at hl; cases hl
      have e := List.dropLast_concat_getLast hne
      rw [← e]
      exact h1 _ _ (ih _ (by rw [List.length_dropLast, hl]; rfl))
  exact this _ l rfl
theorem valid_le : ∀ rs : List ORec, OValid rs → ∀ x ∈ rs, x.n ≤ lastO rs 1 ∨ x.n ≤ lastO rs 2 :=
  snocInd (fun _ x hx => by cases hx) (fun rs r ih h x hx => by
    obtain ⟨ht, hg, -⟩ := h.last
    obtain ⟨h1, h2⟩ := takes_le ht
    rw [lastO_snoc, lastO_snoc]
    have hr : x.n ≤ r.n := by
      rcases List.mem_append.1 hx with hx | hx
      · rcases ih h.init x hx with h | h <;> omega
      · rw [List.mem_singleton.1 hx]; exact Int.le_refl _
    rcases hg.kind with e | e
    · left; rw [if_pos e]; exact hr
    · right; rw [if_pos e]; exact hr)
theorem valid_snoc_le {rs : List ORec} {r : ORec} (h : OValid (rs ++ [r])) : ∀ x ∈ rs, x.n ≤ r.n := fun x hx => by
  obtain ⟨h1, h2⟩ := takes_le h.last.1
  rcases valid_le rs h.init x hx with h | h <;> omega
theorem filter_pre (M : Int) : ∀ rs : List ORec, OValid rs → (rs.filter fun r => decide (r.n ≤ M)) <+: rs :=
  snocInd (fun _ => List.prefix_refl _) (fun rs r ih h => by
    by_cases hr : r.n ≤ M
    · rw [List.filter_eq_self.2 (fun x hx => by
        rcases List.mem_append.1 hx with hx | hx
        · have := valid_snoc_le h x hx; simp; omega
        · rw [List.mem_singleton.1 hx]; simpa using hr)]
      exact List.prefix_refl _
    · rw [List.filter_append, show ([r].filter fun r => decide (r.n ≤ M)) = [] by simp; omega, List.append_nil]
      exact (ih h.init).trans (List.prefix_append _ _))
theorem flat_pre {a b : List ORec} (h : a <+: b) : a.flatMap (·.l) <+: b.flatMap (·.l) := by
  obtain ⟨t, rfl⟩ := h
  rw [List.flatMap_append]
  exact List.prefix_append _ _
theorem counts_data {rs : List ORec} {r : ORec} (h : lastO rs 2 < r.n) (hk : r.kind = 1) : countsO (rs ++ [r]) = countsO rs := by
  unfold countsO
  rw [lastO_snoc, if_neg (by rw [hk]; decide), List.filter_append, show ([r].filter fun r => decide (r.n ≤ lastO rs 2)) = [] by simp; omega, List.append_nil]
theorem counts_snoc {rs : List ORec} {r : ORec} (h : OValid (rs ++ [r])) : countsO rs <+: countsO (rs ++ [r]) := by
  obtain ⟨ht, hg, -⟩ := h.last
  obtain ⟨h1, h2⟩ := takes_le ht
  rcases hg.kind with e | e
  · rw [counts_data h2 e]
    exact List.prefix_refl _
  · have hl : lastO (rs ++ [r]) 2 = r.n := by rw [lastO_snoc, if_pos e]
    rw [countsO_all (rs := rs ++ [r]) (fun x hx => by
      rw [hl]
      rcases List.mem_append.1 hx with hx | hx
      · exact valid_snoc_le h x hx
      · rw [List.mem_singleton.1 hx]; exact Int.le_refl _)]
    exact (flat_pre (filter_pre _ rs h.init)).trans (flat_pre (List.prefix_append _ _))
theorem counts_app : ∀ (t rs : List ORec), OValid (rs ++ t) → countsO rs <+: countsO (rs ++ t) := by
  intro t
  induction t with
  | nil => intro rs _; rw [List.append_nil]; exact List.prefix_refl _
  | cons r t ih =>
    intro rs h
    have e : rs ++ r :: t = (rs ++ [r]) ++ t := by simp
    rw [e] at h ⊢
    exact (counts_snoc h.init).trans (ih _ h)
theorem counts_pre {a b : List ORec} (h : a <+: b) (hb : OValid b) : countsO a <+: countsO b := by
  obtain ⟨t, rfl⟩ := h
  exact counts_app t a hb
theorem counts_take {rs : List ORec} (h : OValid rs) {j k : Nat} (hjk : j ≤ k) : countsO (rs.take j) <+: countsO (rs.take k) := by
  refine counts_pre ?_ (h.take k)
  have : rs.take j = (rs.take k).take j := by rw [List.take_take, Nat.min_eq_left hjk]
  rw [this]
  exact List.take_prefix _ _
theorem wt_len (rs : List ORec) : rs.length * 25 ≤ wtO rs := by
  induction rs with
  | nil => exact Nat.le_refl _
  | cons r rs ih =>
    have e2 : wtO (r :: rs) = (25 + 20 * r.l.length) + wtO rs := by simp [wtO]
    rw [e2, List.length_cons, Nat.add_mul]
    omega
theorem valid_last0 {rs : List ORec} (h : OValid rs) (k : UInt8) : 0 ≤ lastO rs k := lastO_ge (fun r hr => (h.good r hr).2.1)

def wt2 (S : OSt) : Nat := wtO (S.r false) + wtO (S.r true)
theorem wt2_upd (S : OSt) (p : Bool) (r : ORec) : wtO (upd S.r p (S.r p ++ [r]) false) + wtO (upd S.r p (S.r p ++ [r]) true) = wt2 S + (25 + 20 * r.l.length) := by
  unfold wt2
  cases p
  · rw [upd_same, upd_ne _ _ (by decide), wtO_snoc]; omega
  · rw [upd_same, upd_ne _ _ (by decide), wtO_snoc]; omega
theorem wt2_len (S : OSt) (p : Bool) {b : Nat} (h : wt2 S ≤ b) (hb : b ≤ 4194304) : (S.r p).length < 100000000 := by
  have h0 := wt_len (S.r false)
  have h1 := wt_len (S.r true)
  unfold wt2 at h
  cases p <;> omega

theorem OTwo.tellsG (p : Bool) (n : Int) (hn : Cl.In64 n) (h1 : 1 ≤ n) : ∀ (f : Nat) (S : OSt) (s : Bool → List Lg.Rec) (l : List (Bool × Lg.Rec)) (x : List OutX), OTwo S s l → OIn x → lastO (S.r p) 1 ≤ n → lastO (S.r p) 2 < n → wt2 S + (25 + 21 * x.length) ≤ 4194304 →
    ∃ l', OTwo (S.tells p n f x).2 s l' ∧ (∀ q, S.r q <+: (S.tells p n f x).2.r q) ∧ (∀ q, countsO ((S.tells p n f x).2.r q) = countsO (S.r q)) ∧ wt2 (S.tells p n f x).2 ≤ wt2 S + (25 + 21 * x.length) := by
  intro f
  induction f with
  | zero => intro S s l x h _ _ _ _; exact ⟨l, h, fun q => List.prefix_refl _, fun q => rfl, by show wt2 S ≤ _; omega⟩
  | succ f ih =>
    intro S s l x h hx k1 k2 hw
    have hxl : (x.take 1000).length ≤ 1000 ∧ (x.take 1000).length ≤ x.length := by rw [List.length_take]; omega
    have ht : takesO (S.r p) ⟨1, n, x.take 1000⟩ = true := by
      unfold takesO
      rw [if_pos rfl]
      simp only [Bool.and_eq_true, decide_eq_true_eq]
      exact ⟨⟨k1, k2⟩, hxl.1⟩
    have hlen := wt2_len S p (Nat.le_refl _) (by omega)
    have hp := h.put p ⟨1, n, x.take 1000⟩ ⟨hn, fun y hy => hx y (List.mem_of_mem_take hy), hxl.1, .inl rfl⟩ h1 (fun e => absurd e (by show ¬ (1 : UInt8) = 2; decide)) ht hlen (by have : wtO (S.r false) + wtO (S.r true) = wt2 S := rfl; show _ + (25 + 20 * (x.take 1000).length) ≤ _; omega)
    have e : OSt.tells p n (f + 1) S x = if (S.put p ⟨1, n, x.take 1000⟩).1 ≠ 0 then S.put p ⟨1, n, x.take 1000⟩ else if x.length ≤ 1000 then (0, (S.put p ⟨1, n, x.take 1000⟩).2) else OSt.tells p n f (S.put p ⟨1, n, x.take 1000⟩).2 (x.drop 1000) := rfl
    rcases hp with ⟨q1, -, q3, q4⟩ | ⟨q1, q2, q3, -⟩
    · rw [e, if_pos (by rw [q1]; decide)]
      exact ⟨l, q4, fun q => by rw [q3]; exact List.prefix_refl _, fun q => by rw [q3], by unfold wt2; rw [q3]; omega⟩
    · have hw1 : wt2 (S.put p ⟨1, n, x.take 1000⟩).2 = wt2 S + (25 + 20 * (x.take 1000).length) := by
        unfold wt2
        rw [q2]
        exact wt2_upd S p ⟨1, n, x.take 1000⟩
      have hpre : ∀ q, S.r q <+: (S.put p ⟨1, n, x.take 1000⟩).2.r q := fun q => by
        rw [q2]
        by_cases hq : q = p
        · rw [hq, upd_same]; exact List.prefix_append _ _
        · rw [upd_ne _ _ hq]; exact List.prefix_refl _
      have hct : ∀ q, countsO ((S.put p ⟨1, n, x.take 1000⟩).2.r q) = countsO (S.r q) := fun q => by
        rw [q2]
        by_cases hq : q = p
        · rw [hq, upd_same]; exact counts_data k2 rfl
        · rw [upd_ne _ _ hq]
      rw [e, if_neg (by rw [q1]; decide)]
      by_cases hxs : x.length ≤ 1000
      · rw [if_pos hxs]
        exact ⟨_, q3, hpre, hct, by rw [hw1]; omega⟩
      · rw [if_neg hxs]
        have htl : (x.take 1000).length = 1000 := by rw [List.length_take]; omega
        have hdl : (x.drop 1000).length = x.length - 1000 := by rw [List.length_drop]
        rw [htl] at hw1
        obtain ⟨l', g1, g2, g3, g4⟩ := ih _ s _ (x.drop 1000) q3 (fun y hy => hx y (List.mem_of_mem_drop hy)) (by rw [q2, upd_same, lastO_snoc, if_pos rfl]; exact Int.le_refl _) (by rw [q2, upd_same, lastO_snoc, if_neg (by show ¬ (1 : UInt8) = 2; decide)]; exact k2) (by rw [hw1, hdl]; omega)
        refine ⟨l', g1, fun q => (hpre q).trans (g2 q), fun q => (g3 q).trans (hct q), ?_⟩
        rw [hw1, hdl] at g4
        omega
theorem OTwo.tellG {S : OSt} {s : Bool → List Lg.Rec} {l : List (Bool × Lg.Rec)} (h : OTwo S s l) (p : Bool) (n : Int) (hn : Cl.In64 n) (x : List OutX) (hx : OIn x) (hw : wt2 S + (25 + 21 * x.length) ≤ 4194304) :
    ∃ l', OTwo (S.tell p n x).2 s l' ∧ (∀ q, S.r q <+: (S.tell p n x).2.r q) ∧ (∀ q, countsO ((S.tell p n x).2.r q) = countsO (S.r q)) ∧ wt2 (S.tell p n x).2 ≤ wt2 S + (25 + 21 * x.length) := by
  unfold OSt.tell
  by_cases hc : n ≤ lastO (S.r p) 1 ∨ n ≤ lastO (S.r p) 2
  · rw [if_pos hc]
    exact ⟨l, h, fun q => List.prefix_refl _, fun q => rfl, by show wt2 S ≤ _; omega⟩
  · rw [if_neg hc]
    have := valid_last0 (h.valid p) 1
    exact OTwo.tellsG p n hn (by omega) _ S s l x h hx (by omega) (by omega) hw

theorem OTwo.mark1G {S : OSt} {s : Bool → List Lg.Rec} {l : List (Bool × Lg.Rec)} (h : OTwo S s l) (n : Int) (p : Bool) (hn : Cl.In64 n) (h1 : 1 ≤ n) (hw : wt2 S + 25 ≤ 4194304) :
    ∃ l', OTwo (OSt.mark1 n S p).2 s l' ∧ (∀ q, S.r q <+: (OSt.mark1 n S p).2.r q) ∧ wt2 (OSt.mark1 n S p).2 ≤ wt2 S + 25 := by
  unfold OSt.mark1
  by_cases hs : n ≤ lastO (S.r p) 2
  · rw [if_pos hs]
    exact ⟨l, h, fun q => List.prefix_refl _, by show wt2 S ≤ _; omega⟩
  · rw [if_neg hs]
    by_cases ht : takesO (S.r p) ⟨2, n, []⟩ = false
    · rw [if_pos ht]
      exact ⟨l, h, fun q => List.prefix_refl _, by show wt2 S ≤ _; omega⟩
    · rw [if_neg ht]
      have hlen := wt2_len S p (Nat.le_refl _) (by omega)
      rcases h.put p ⟨2, n, []⟩ ⟨hn, fun x hx => (by cases hx), Nat.zero_le _, .inr rfl⟩ h1 (fun _ => rfl) (by simpa using ht) hlen (by have : wtO (S.r false) + wtO (S.r true) = wt2 S := rfl; show _ + (25 + 20 * 0) ≤ _; omega) with ⟨-, -, q3, q4⟩ | ⟨-, q2, q3, -⟩
      · exact ⟨l, q4, fun q => by rw [q3]; exact List.prefix_refl _, by unfold wt2; rw [q3]; omega⟩
      · refine ⟨_, q3, fun q => ?_, ?_⟩
        · rw [q2]
          by_cases hq : q = p
          · rw [hq, upd_same]; exact List.prefix_append _ _
          · rw [upd_ne _ _ hq]; exact List.prefix_refl _
        · have := wt2_upd S p ⟨2, n, []⟩
          unfold wt2
          rw [q2, this]
          show wt2 S + (25 + 20 * 0) ≤ _
          unfold wt2
          omega
theorem OTwo.syncG {S : OSt} {s : Bool → List Lg.Rec} {l : List (Bool × Lg.Rec)} (h : OTwo S s l) :
    ∃ s' l', OTwo S.sync.2 s' l' ∧ (∀ q, (s q).length ≤ (s' q).length) ∧ S.sync.2.r = S.r ∧ (S.sync.1 = 0 → l' = []) := by
  have ha : ∀ q, (s q).length ≤ (allS s l q).length := fun q => by unfold allS; rw [List.length_append]; omega
  rcases h.sync with ⟨-, q2, q3, -⟩ | ⟨q1, -, q2, q3 | q3⟩
  · exact ⟨_, _, q3, ha, q2, fun _ => rfl⟩
  · exact ⟨_, _, q3, fun _ => Nat.le_refl _, q2, fun e => by rw [q1] at e; cases e⟩
  · exact ⟨_, _, q3, ha, q2, fun _ => rfl⟩
theorem OTwo.markG {S : OSt} {s : Bool → List Lg.Rec} {l : List (Bool × Lg.Rec)} (h : OTwo S s l) (n : Int) (hn : Cl.In64 n) (hw : wt2 S + 50 ≤ 4194304) :
    ∃ s' l', OTwo (S.mark n).2 s' l' ∧ (∀ q, (s q).length ≤ (s' q).length) ∧ (∀ q, S.r q <+: (S.mark n).2.r q) ∧ wt2 (S.mark n).2 ≤ wt2 S + 50 ∧ ((S.mark n).1 = 0 → l' = []) := by
  by_cases h1 : n < 1
  · have e : S.mark n = (2, S) := by unfold OSt.mark; rw [if_pos h1]
    rw [e]
    exact ⟨s, l, h, fun _ => Nat.le_refl _, fun _ => List.prefix_refl _, by show wt2 S ≤ _; omega, fun e => by cases e⟩
  · have e : S.mark n = if (S.each (OSt.mark1 n)).1 ≠ 0 then S.each (OSt.mark1 n) else (S.each (OSt.mark1 n)).2.sync := by
      unfold OSt.mark
      rw [if_neg h1]
    have e2 : S.each (OSt.mark1 n) = if (OSt.mark1 n S false).1 ≠ 0 then OSt.mark1 n S false else OSt.mark1 n (OSt.mark1 n S false).2 true := rfl
    obtain ⟨l1, a1, a2, a3⟩ := h.mark1G n false hn (by omega) (by omega)
    by_cases c1 : (OSt.mark1 n S false).1 ≠ 0
    · rw [if_pos c1] at e2
      rw [e, e2, if_pos c1]
      exact ⟨s, l1, a1, fun _ => Nat.le_refl _, a2, by omega, fun e => absurd e c1⟩
    · rw [if_neg c1] at e2
      obtain ⟨l2, b1, b2, b3⟩ := a1.mark1G n true hn (by omega) (by omega)
      by_cases c2 : (OSt.mark1 n (OSt.mark1 n S false).2 true).1 ≠ 0
      · rw [e, e2, if_pos c2]
        exact ⟨s, l2, b1, fun _ => Nat.le_refl _, fun q => (a2 q).trans (b2 q), by omega, fun e => absurd e c2⟩
      · rw [e, e2, if_neg c2]
        obtain ⟨s', l', d1, d2, d3, d4⟩ := b1.syncG
        exact ⟨s', l', d1, d2, fun q => by rw [d3]; exact (a2 q).trans (b2 q), by unfold wt2; rw [d3]; show wt2 (OSt.mark1 n (OSt.mark1 n S false).2 true).2 ≤ wt2 S + 50; omega, d4⟩

/-- What holds throughout: all that counted when all was synced counts behind each crash. -/
structure GInv (S : OSt) (sure : Bool → List OutX) (b : Nat) : Prop where
  ex : ∃ s l, OTwo S s l ∧ ∀ p, sure p <+: countsO ((S.r p).take (s p).length)
  wt : wt2 S ≤ b
def nowO (S : OSt) : Bool → List OutX := fun p => countsO (S.r p)

theorem GInv.fit {S : OSt} {sure : Bool → List OutX} {b : Nat} (h : GInv S sure b) (hb : b ≤ 500000) : OFit 20000 S := by
  obtain ⟨s, l, ht, -⟩ := h.ex
  have h0 := wt_len (S.r false)
  have h1 := wt_len (S.r true)
  have hw : wtO (S.r false) + wtO (S.r true) ≤ b := h.wt
  exact ht.fit (by omega)
theorem GInv.start : GInv out0 (fun _ => []) 0 := by
  refine ⟨⟨_, _, OTwo.start, fun p => List.nil_prefix⟩, ?_⟩
  unfold wt2
  rw [out0_r]
  exact Nat.le_refl _
theorem pre_take {a b : List ORec} {j k : Nat} (h : a <+: b) (hb : OValid b) (hj : j ≤ a.length) (hjk : j ≤ k) : countsO (a.take j) <+: countsO (b.take k) := by
  obtain ⟨t, rfl⟩ := h
  have e : a.take j = (a ++ t).take j := by rw [List.take_append_of_le_length hj]
  rw [e]
  exact counts_take hb hjk
theorem OTwo.sle {S : OSt} {s : Bool → List Lg.Rec} {l : List (Bool × Lg.Rec)} (h : OTwo S s l) (p : Bool) : (s p).length ≤ (S.r p).length := by have := h.lens p; omega
theorem GInv.of {S S' : OSt} {sure : Bool → List OutX} {s s' : Bool → List Lg.Rec} {l l' : List (Bool × Lg.Rec)} {b : Nat} (h : OTwo S s l) (hs : ∀ p, sure p <+: countsO ((S.r p).take (s p).length)) (h' : OTwo S' s' l') (hl : ∀ p, (s p).length ≤ (s' p).length) (hr : ∀ p, S.r p <+: S'.r p) (hw : wt2 S' ≤ b) : GInv S' sure b :=
  ⟨⟨s', l', h', fun p => (hs p).trans (pre_take (hr p) (h'.valid p) (h.sle p) (hl p))⟩, hw⟩
theorem GInv.all {S' : OSt} {s' : Bool → List Lg.Rec} {b : Nat} (h' : OTwo S' s' []) (hw : wt2 S' ≤ b) : GInv S' (nowO S') b :=
  ⟨⟨s', [], h', fun p => by
    have := h'.lens p
    rw [Lg.pick_nil] at this
    rw [List.take_of_length_le (by simp at this; omega)]
    exact List.prefix_refl _⟩, hw⟩
theorem GInv.tell {S : OSt} {sure : Bool → List OutX} {b : Nat} (h : GInv S sure b) (p : Bool) (n : Int) (hn : Cl.In64 n) (x : List OutX) (hx : OIn x) (hb : b + (25 + 21 * x.length) ≤ 1000000) :
    GInv (S.tell p n x).2 sure (b + (25 + 21 * x.length)) ∧ nowO (S.tell p n x).2 = nowO S := by
  obtain ⟨s, l, h1, h2⟩ := h.ex
  have hw := h.wt
  obtain ⟨l', g1, g2, g3, g4⟩ := h1.tellG p n hn x hx (by omega)
  exact ⟨GInv.of h1 h2 g1 (fun _ => Nat.le_refl _) g2 (by omega), funext g3⟩
theorem GInv.more {S : OSt} {sure : Bool → List OutX} {b c : Nat} (h : GInv S sure b) (hc : b ≤ c) : GInv S sure c := ⟨h.ex, Nat.le_trans h.wt hc⟩
theorem GInv.sync {S : OSt} {sure : Bool → List OutX} {b : Nat} (h : GInv S sure b) :
    GInv S.sync.2 sure b ∧ nowO S.sync.2 = nowO S ∧ (S.sync.1 = 0 → GInv S.sync.2 (nowO S.sync.2) b) := by
  obtain ⟨s, l, h1, h2⟩ := h.ex
  obtain ⟨s', l', g1, g2, g3, g4⟩ := h1.syncG
  have hw : wt2 S.sync.2 ≤ b := by unfold wt2; rw [g3]; exact h.wt
  exact ⟨GInv.of h1 h2 g1 g2 (fun p => by rw [g3]; exact List.prefix_refl _) hw, by unfold nowO; rw [g3], fun e => by have := g4 e; subst this; exact GInv.all g1 hw⟩
theorem GInv.mark {S : OSt} {sure : Bool → List OutX} {b : Nat} (h : GInv S sure b) (n : Int) (hn : Cl.In64 n) (hb : b + 50 ≤ 1000000) :
    GInv (S.mark n).2 sure (b + 50) ∧ (∀ p, nowO S p <+: nowO (S.mark n).2 p) ∧ ((S.mark n).1 = 0 → GInv (S.mark n).2 (nowO (S.mark n).2) (b + 50)) := by
  obtain ⟨s, l, h1, h2⟩ := h.ex
  have hw := h.wt
  obtain ⟨s', l', g1, g2, g3, g4, g5⟩ := h1.markG n hn (by omega)
  exact ⟨GInv.of h1 h2 g1 g2 g3 (by omega), fun p => counts_pre (g3 p) (g1.valid p), fun e => by have := g5 e; subst this; exact GInv.all g1 (by omega)⟩
theorem GInv.power {S : OSt} {sure : Bool → List OutX} {b : Nat} (h : GInv S sure b) (n : Int) (hn : n ≤ 9223372036854775807) : GInv { S with D := (Dk.power S.D n).2 } sure b := by
  obtain ⟨s, l, h1, h2⟩ := h.ex
  exact ⟨⟨s, l, h1.power n hn, h2⟩, h.wt⟩
theorem GInv.crash {S : OSt} {sure : Bool → List OutX} {b : Nat} (h : GInv S sure b) (hb : b ≤ 1000000) (x y : Int) :
    ∃ rs : Bool → List ORec, ∃ D1 D2, Opens (Dk.crash S.D x y) 2 D1 ((rs false).map entO) ∧ Opens D1 3 D2 ((rs true).map entO) ∧ (∀ p, OValid (rs p)) ∧ GInv (openSt D2 rs 2 0) sure b ∧ ∀ p, sure p <+: nowO (openSt D2 rs 2 0) p := by
  obtain ⟨s, l, h1, h2⟩ := h.ex
  have hw : wtO (S.r false) + wtO (S.r true) ≤ b := h.wt
  obtain ⟨k, rs, D1, D2, hk, hrs, ho0, ho1, ht, hF, hv, hr⟩ := h1.crash (fun p => by cases p <;> omega) x y
  have hlt : ∀ p, sure p <+: countsO (rs p) := fun p => (h2 p).trans (by rw [hrs]; exact counts_take (h1.valid p) (by omega))
  have hww : ∀ p, wtO (rs p) ≤ wtO (S.r p) := fun p => by
    rw [hrs]
    have e := List.take_append_drop ((s p).length + (Lg.pick p (l.take k)).length) (S.r p)
    conv => rhs; rw [← e]
    unfold wtO
    rw [List.map_append, List.sum_append]
    omega
  have h0 := hww false
  have h1' := hww true
  refine ⟨rs, D1, D2, ho0, ho1, hv, ⟨⟨_, [], ht, fun p => ?_⟩, by unfold wt2; rw [hr]; omega⟩, fun p => by unfold nowO; rw [hr]; exact hlt p⟩
  rw [hr, List.take_of_length_le (by rw [List.length_map]; exact Nat.le_refl _)]
  exact hlt p

end Go.Proofs.Ytllecjhfbojgcaa

namespace Go.Proofs.Ytllecjhfbojgcaa
open Go.RowKit Go.ChangeShapes Go.WideShapes Go.Deep
set_option maxRecDepth 20000

/-- A call: its kind, file, numbers and bytes. -/
structure Gop where
  kind : Int
  n : Int
  m : Int
  t : Int
  l : List OutX
  v : Value
instance : Inhabited Gop := ⟨⟨0, 0, 0, 0, [], .bool false⟩⟩
def Gop.cells (o : Gop) : List Value := [.int .i64 o.kind, .int .i64 o.n, .int .i64 o.m, .int .i64 o.t, o.v]
/-- What is in 64 bits, and the row. -/
structure GopIn (w : World) (o : Gop) : Prop where
  n : (Lit.int .i64 o.n).wf = true
  m : (Lit.int .i64 o.m).wf = true
  t : (Lit.int .i64 o.t).wf = true
  rd : Reads w o.v o.l.length (outCells o.l)
  i : OIn o.l
def gopCells (l : List Gop) : List Value := l.flatMap Gop.cells
theorem gopCells_cons (r : Gop) (l : List Gop) : gopCells (r :: l) = r.cells ++ gopCells l := rfl
theorem gopCells_len (l : List Gop) : (gopCells l).length = l.length * 5 := by
  induction l with
  | nil => rfl
  | cons r l ih => rw [gopCells_cons, List.length_append, ih, List.length_cons]; simp [Gop.cells]; omega
theorem gopCells_at (l : List Gop) : ∀ (k : Nat) (r : Gop), l[k]? = some r → ∀ j, j < 5 → (gopCells l)[k * 5 + j]? = r.cells[j]? := by
  induction l with
  | nil => intro k r h; simp at h
  | cons z l ih =>
    intro k r h j hj
    rw [gopCells_cons]
    have hz : z.cells.length = 5 := rfl
    cases k with
    | zero =>
      simp only [List.getElem?_cons_zero, Option.some.injEq] at h
      subst h
      rw [List.getElem?_append_left (by rw [hz]; omega)]
      congr 1
      omega
    | succ k =>
      rw [List.getElem?_cons_succ] at h
      rw [List.getElem?_append_right (by rw [hz]; omega), ← ih k r h j hj]
      congr 1
      rw [hz]
      omega
theorem readsG {w : World} {a : Option Addr} {n c : Nat} {l : List Gop} (h : Reads w (.slice a n c) l.length (gopCells l)) (k : Nat) (r : Gop) (hr : l[k]? = some r) :
    ∃ b o, a = some ⟨b, o, none⟩ ∧ b < w.heap.size ∧ w.cell? ⟨b, o + k * 5, none⟩ = some (.int .i64 r.kind) ∧ w.cell? ⟨b, o + k * 5 + 1, none⟩ = some (.int .i64 r.n) ∧ w.cell? ⟨b, o + k * 5 + 2, none⟩ = some (.int .i64 r.m) ∧ w.cell? ⟨b, o + k * 5 + 3, none⟩ = some (.int .i64 r.t) ∧ w.cell? ⟨b, o + k * 5 + 4, none⟩ = some r.v := by
  have hlt := (List.getElem?_eq_some_iff.1 hr).1
  obtain ⟨b, o, kk, hv, h1, _, hb, hc⟩ := h.some (by omega)
  simp only [Value.slice.injEq] at hv
  obtain ⟨h1', _, h3⟩ := hv
  have g := gopCells_at l k r hr
  exact ⟨b, o, h1', hb, hc _ _ (g 0 (by omega)), hc _ _ (g 1 (by omega)), hc _ _ (g 2 (by omega)), hc _ _ (g 3 (by omega)), hc _ _ (g 4 (by omega))⟩

section
variable {H : Type} {enc : TypeId × Value → H} {P : Program} {w : World} {base : Nat} {spare : Nat → Bool} {held : Bool}
theorem reads_gops {t e : TypeId} {f0 f1 f2 f3 f4 : Field} {fuel : Nat} {v : Value} {x : DataW H × List MemPlace}
    (ht : P.underlying t = some (.slice e)) (he : P.underlying e = some (.struct #[f0, f1, f2, f3, f4])) (hone : oneCellFields P #[f0, f1, f2, f3, f4] = true) (hC : P.cellsOf e = 5)
    (k0 : P.underlying f0.type = some (.int .i64)) (k1 : P.underlying f1.type = some (.int .i64)) (k2 : P.underlying f2.type = some (.int .i64)) (k3 : P.underlying f3.type = some (.int .i64)) {g : TypeId} {h0 h1 : Field} (k4 : P.underlying f4.type = some (.slice g)) (heg : P.underlying g = some (.struct #[h0, h1])) (hcg : P.cellsOf g = 2)
    (j0 : P.underlying h0.type = some (.int .i64)) (j1 : P.underlying h1.type = some (.int .i64)) (o0 : h0.offset = 0) (o1 : h1.offset = 1) (c0 : P.cellsOf h0.type = 1) (c1 : P.cellsOf h1.type = 1)
    (h : DataW.trod enc P w base spare held fuel t [v] = some x) :
    ∃ (l : List Gop), Reads w v l.length (gopCells l) ∧ (∀ r ∈ l, GopIn w r) ∧ (l = [] ∨ ∃ es sp, x.1 = .slice es sp ∧ l.length = es.length) := by
  rcases open_slice ht h with ⟨hcs, hx⟩ | ⟨a, len, cap, m, n, D, Pl, hcs, _, hl, hm, hmm, hx, hel⟩
  · simp only [List.cons.injEq, and_true] at hcs
    subst hcs
    exact ⟨[], Reads.nil _, by simp, .inl rfl⟩
  · simp only [List.cons.injEq, and_true] at hcs
    subst hcs
    have hle : len ≤ m := by rw [hmm]; split <;> omega
    rw [hC] at hel
    obtain ⟨f, hf⟩ := Deep.choose_lt (α := Gop) (n := len) (p := fun i r => (∀ j, j < 5 → ∃ u, r.cells[j]? = some u ∧ w.cell? (a.add (i * 5 + j)) = some u) ∧ GopIn w r) (fun i hi => by
      obtain ⟨cs, h1, h2⟩ := hel i (by omega)
      obtain ⟨ys, n', hn', hy, hlen, hyl, hfld⟩ := DataW.trod_struct he h2
      obtain ⟨_, hcl, hat⟩ := World.cells?_some h1
      match cs, hcl with
      | [u0, u1, u2, u3, u4], _ =>
        have fld : ∀ (j : Nat) (fj : Field), (#[f0, f1, f2, f3, f4] : Array Field)[j]? = some fj → fj.offset = j ∧ P.cellsOf fj.type = 1 := fun j fj hj => by
          obtain ⟨ho, hk⟩ := hone_of hone j fj hj
          exact ⟨ho, hk⟩
        have g0 := hfld 0 f0 rfl
        have g1 := hfld 1 f1 rfl
        have g2 := hfld 2 f2 rfl
        have g3 := hfld 3 f3 rfl
        have g4 := hfld 4 f4 rfl
        rw [(fld 0 f0 rfl).1, (fld 0 f0 rfl).2] at g0
        rw [(fld 1 f1 rfl).1, (fld 1 f1 rfl).2] at g1
        rw [(fld 2 f2 rfl).1, (fld 2 f2 rfl).2] at g2
        rw [(fld 3 f3 rfl).1, (fld 3 f3 rfl).2] at g3
        rw [(fld 4 f4 rfl).1, (fld 4 f4 rfl).2] at g4
        have hys : ∀ j, j < 5 → ∃ y, ys[j]? = some y := fun j hj => ⟨ys[j]'(by have : ys.length = 5 := hyl; omega), List.getElem?_eq_getElem _⟩
        obtain ⟨y0, hy0⟩ := hys 0 (by omega)
        obtain ⟨y1, hy1⟩ := hys 1 (by omega)
        obtain ⟨y2, hy2⟩ := hys 2 (by omega)
        obtain ⟨y3, hy3⟩ := hys 3 (by omega)
        obtain ⟨y4, hy4⟩ := hys 4 (by omega)
        rw [hy0] at g0
        rw [hy1] at g1
        rw [hy2] at g2
        rw [hy3] at g3
        rw [hy4] at g4
        obtain ⟨n0, e0, -, -⟩ := DataW.trod_int k0 g0
        obtain ⟨n1, e1, -, w1⟩ := DataW.trod_int k1 g1
        obtain ⟨n2, e2, -, w2⟩ := DataW.trod_int k2 g2
        obtain ⟨n3, e3, -, w3⟩ := DataW.trod_int k3 g3
        simp at e0 e1 e2 e3
        subst e0; subst e1; subst e2; subst e3
        obtain ⟨l4, r4, i4, -⟩ := reads_outs k4 heg hcg j0 j1 o0 o1 c0 c1 g4
        refine ⟨⟨n0, n1, n2, n3, l4, u4⟩, fun j hj => ?_, w1, w2, w3, r4, outs_in i4⟩
        have q := hat j (by simpa using hj)
        rw [Deep.add_add] at q
        have hjj : j = 0 ∨ j = 1 ∨ j = 2 ∨ j = 3 ∨ j = 4 := by omega
        rcases hjj with rfl | rfl | rfl | rfl | rfl
        all_goals exact ⟨_, rfl, by simpa using q⟩)
    have hget : ∀ i r, ((List.range len).map f)[i]? = some r → i < len ∧ r = f i := by
      intro i r hi
      rw [List.getElem?_map] at hi
      obtain ⟨j, hj, rfl⟩ := Option.map_eq_some_iff.1 hi
      obtain ⟨hlt, rfl⟩ := List.getElem?_eq_some_iff.1 hj
      rw [List.length_range] at hlt
      exact ⟨hlt, by simp⟩
    refine ⟨(List.range len).map f, ?_, ?_, .inr ⟨_, _, by rw [hx], by simp⟩⟩
    · by_cases h0 : len = 0
      · subst h0
        exact .inl ⟨_, _, rfl, rfl, rfl⟩
      · obtain ⟨b, off, spot⟩ := a
        obtain ⟨u, -, hz⟩ := (hf 0 (by omega)).1 0 (by omega)
        have hspot : spot = none := by simpa [Addr.add] using World.cell?_spot hz
        subst hspot
        refine .inr ⟨b, off, cap, by simp, by simp; omega, hm, ?_, fun i c hi => ?_⟩
        · rw [addr_add] at hz
          exact World.block_lt_of_cell? w _ hz
        · have hi2 : i < len * 5 := by
            have := (List.getElem?_eq_some_iff.1 hi).1
            rw [gopCells_len] at this
            simpa using this
          have hq : i / 5 < len := by omega
          have hr : ((List.range len).map f)[i / 5]? = some (f (i / 5)) := by simp [hq]
          have hat := gopCells_at _ _ _ hr (i % 5) (by omega)
          rw [show i / 5 * 5 + i % 5 = i by omega, hi] at hat
          obtain ⟨u, hu, hcell⟩ := (hf (i / 5) hq).1 (i % 5) (by omega)
          rw [hu] at hat
          simp only [Option.some.injEq] at hat
          subst hat
          rw [addr_add, show i / 5 * 5 + i % 5 = i by omega] at hcell
          exact hcell
    · intro r hr
      obtain ⟨i, hi⟩ := List.mem_iff_getElem?.1 hr
      obtain ⟨hlt, rfl⟩ := hget i r hi
      exact (hf i hlt).2
end

end Go.Proofs.Ytllecjhfbojgcaa

namespace Go.Proofs.Ytllecjhfbojgcaa
open Go.RowKit
set_option maxRecDepth 20000

def sumG (l : List Gop) : Nat := (l.map fun o => min o.l.length 5000).sum
theorem sumG_snoc (l : List Gop) (o : Gop) : sumG (l ++ [o]) = sumG l + min o.l.length 5000 := by simp [sumG]
theorem sumG_len (l : List Gop) : sumG l ≤ l.length * 5000 := by
  induction l with
  | nil => exact Nat.zero_le _
  | cons o l ih =>
    have e : sumG (o :: l) = min o.l.length 5000 + sumG l := by simp [sumG]
    rw [e, List.length_cons, Nat.add_mul]
    omega

set_option maxRecDepth 20000 in
set_option maxHeartbeats 4000000 in
theorem gheavy_any (v : Value) (l : List Gop) (w : World) (hla : l.length ≤ 140737488355328) (hr : Reads w v l.length (gopCells l)) (hs : ∀ r ∈ l, GopIn w r) :
    Calls Try.prog 32 #[v] w fun e w' => (e = .returned (.bool false) ∧ l.length ≤ 200 ∧ sumG l < 5000 ∧ Below w.heap.size w w') ∨ (e = .returned (.bool true) ∧ Below w.heap.size w w') := by
  have HR := Lib.hid hr
  have HS := Lib.hid hs
  obtain ⟨a, c, rfl⟩ := hr.shape
  clear hr hs
  obtain ⟨m, hm⟩ : ∃ m, l.length = m := ⟨_, rfl⟩
  have HM := Lib.hid hm
  rw [hm] at hla
  rw [hm]
  go_enter Try.func32, Try.ntmps32
  go_wp2_with fail
  go_loopw [3, 8] (fun n i wr => ∃ (k q : Nat), k ≤ m ∧ i = .int .i64 (k : Int) ∧ n = .int .i64 (q : Int) ∧ Hid (q = sumG (l.take k)) ∧ q ≤ k * 5000 ∧ Hid (Below w.heap.size w wr)) (fun _ i _ => m - (intOf i).toNat)
  case atStart => exact ⟨0, 0, Nat.zero_le _, rfl, rfl, Lib.hid rfl, by omega, Lib.hid (Below.refl _ _)⟩
  case round =>
    obtain ⟨k, q, hk, rfl, rfl, HQ, hq, HB⟩ := hrel
    by_cases hlt : k < m
    · obtain ⟨x, hx⟩ : ∃ x, l[k]? = some x := ⟨l[k]'(by rw [HM.out]; omega), by simp⟩
      have hkk : (k : Int) < (m : Int) := by omega
      have hrr := HR.out
      obtain ⟨b, o, rfl, hblt, r0, r1, r2, r3, r4⟩ := readsG hrr k x hx
      have r0 := (World.cell?_of_block (HB.out.block b hblt)).trans r0
      have r1 := (World.cell?_of_block (HB.out.block b hblt)).trans r1
      have r2 := (World.cell?_of_block (HB.out.block b hblt)).trans r2
      have r3 := (World.cell?_of_block (HB.out.block b hblt)).trans r3
      have r4 := (World.cell?_of_block (HB.out.block b hblt)).trans r4
      have hsx := (HS.out x (List.mem_of_getElem? hx)).rd
      have htk : sumG (l.take (k + 1)) = sumG (l.take k) + min x.l.length 5000 := by
        rw [List.take_add_one, hx]
        exact sumG_snoc _ _
      have hzl := hsx.lenLe
      unfold maxLen at hzl
      obtain ⟨va, vc, hv⟩ := hsx.shape
      rw [hv] at r4
      obtain ⟨z, hz⟩ : ∃ z, x.l.length = z := ⟨_, rfl⟩
      rw [hz] at htk hzl r4
      have HTK := Lib.hid htk
      have HB2 := Lib.hid (bel_trans HB.out (bel_alloc wr (.cells #[.int .i64 x.kind, .int .i64 x.n, .int .i64 x.m, .int .i64 x.t, .slice va z vc] 76)))
      clear hrr hx htk hsx hv hz
      by_cases hsz : z ≤ 5000
      · have e1 : IntKind.i64.wrap ((q : Int) + (z : Int)) = ((q + z : Nat) : Int) := by rw [IntWalk.i64_in _ (by omega)]; omega
        have m2 : (if (5000 : Int) < (z : Int) then (5000 : Int) else (z : Int)) = (z : Int) := by rw [if_neg (by omega)]
        have m3 : (min (z : Int) 5000) = (z : Int) := by omega
        have m4 : ¬ (5000 : Int) < (z : Int) := by omega
        have m5 : (z : Int) ≤ 5000 := by omega
        go_wp2_with fail
        go_roundw
        case rel => exact ⟨k + 1, q + z, by omega, by go_num, by go_num, Lib.hid (by rw [HTK.out, ← HQ.out, Nat.min_eq_left hsz]), by omega, HB2⟩
        case measure => simp [intOf]; omega
      · obtain ⟨y, hy⟩ : ∃ y : Nat, q + 5000 = y := ⟨_, rfl⟩
        have e1 : IntKind.i64.wrap ((q : Int) + 5000) = (y : Int) := by rw [IntWalk.i64_in _ (by omega)]; omega
        have m2 : (if (5000 : Int) < (z : Int) then (5000 : Int) else (z : Int)) = 5000 := by rw [if_pos (by omega)]
        have m3 : (min (z : Int) 5000) = 5000 := by omega
        have m4 : (5000 : Int) < (z : Int) := by omega
        have m5 : ¬ (z : Int) ≤ 5000 := by omega
        have HY := Lib.hid hy
        go_wp2_with fail
        go_roundw
        case rel => exact ⟨k + 1, y, by omega, by go_num, by go_num, Lib.hid (by rw [HTK.out, ← HQ.out, ← HY.out, Nat.min_eq_right (by omega)]), by omega, HB2⟩
        case measure => simp [intOf]; omega
    · have hke : k = m := by omega
      subst hke
      have hkk : ¬ (k : Int) < (k : Int) := by omega
      clear hlt
      have hsum : q = sumG l := by rw [HQ.out, List.take_of_length_le (by rw [HM.out]; exact Nat.le_refl _)]
      have HSU := Lib.hid hsum
      clear hsum
      by_cases h5 : 5000 ≤ q
      · have hd : (5000 : Int) ≤ (q : Int) := by omega
        go_wp2_with fail
        go_ret
        exact .inr ⟨rfl, HB.out⟩
      · have hd : ¬ (5000 : Int) ≤ (q : Int) := by omega
        by_cases h3 : 200 < k
        · have hd2 : (200 : Int) < (k : Int) := by omega
          go_wp2_with fail
          go_ret
          exact .inr ⟨rfl, HB.out⟩
        · have hd2 : ¬ (200 : Int) < (k : Int) := by omega
          go_wp2_with fail
          go_ret
          exact .inl ⟨rfl, by omega, by rw [← HSU.out]; omega, HB.out⟩

set_option maxHeartbeats 4000000 in
theorem begins_any (w : World) (u v : Value) (a b : List OutX) (hu : Reads w u a.length (outCells a)) (hv : Reads w v b.length (outCells b)) (hab : b <+: a) :
    Calls Try.prog 39 #[u, v] w fun e w' => e = .returned (.bool true) ∧ Below w.heap.size w w' := by
  have hlu := hu.lenLe
  have hlv := hv.lenLe
  unfold maxLen at hlu hlv
  have hle : b.length ≤ a.length := hab.length_le
  have htk : a.take b.length = b := by obtain ⟨t, rfl⟩ := hab; rw [List.take_left' rfl]
  obtain ⟨ua, uc, rfl⟩ := hu.shape
  obtain ⟨va, vc, rfl⟩ := hv.shape
  have hcap := reads_cap hu
  have hr := reads_take hu b.length hle
  rw [htk] at hr
  have HR := Lib.hid hr
  have HV := Lib.hid hv
  have HEQ := Lib.hid (fun (X : World) (hX : Below w.heap.size w X) => oequal_same X _ _ b (hr.below hX) (hv.below hX))
  obtain ⟨n, hn⟩ : ∃ n, a.length = n := ⟨_, rfl⟩
  obtain ⟨m, hm⟩ : ∃ n, b.length = n := ⟨_, rfl⟩
  rw [hm] at HEQ hle hlv
  rw [hn] at hle hcap hlu
  rw [hn, hm]
  have h1 : (m : Int) ≤ (n : Int) := by omega
  have h2 : (m : Int) ≤ (uc : Int) := by omega
  clear hu hv hr hab htk hn hm HR HV
  go_enter Try.func39, Try.ntmps39
  go_wp2_with fail
  refine (HEQ.out w (Below.refl _ _)).mono ?_
  rintro e w1 ⟨rfl, hb⟩
  go_wp2_with fail
  go_ret
  exact ⟨rfl, hb⟩

end Go.Proofs.Ytllecjhfbojgcaa

namespace Go.Proofs.Ytllecjhfbojgcaa
open Go.RowKit
set_option maxRecDepth 20000

def Kg (g7 g9 g10 : Nat) (s x : Bool → Value) : Nat → Prop := fun k => k = g7 ∨ k = g9 ∨ k = g10 ∨ (∃ p, (s p).ownBlock = some k) ∨ (∃ p, (x p).ownBlock = some k)
structure GSt (w X : World) (o d g7 g9 g10 : Nat) (op : Gop) (S : OSt) (s x : Bool → Value) (sure was : Bool → List OutX) : Prop where
  out : OutK (Fr.all w) X o d S (Kg g7 g9 g10 s x)
  c7 : X.heap[g7]? = some (.cells #[s false, s true] 74)
  c9 : X.heap[g9]? = some (.cells #[.int .i64 op.kind, .int .i64 op.n, .int .i64 op.m, .int .i64 op.t, op.v] 76)
  c10 : X.heap[g10]? = some (.cells #[x false, x true] 74)
  rs : ∀ p, Reads X (s p) (sure p).length (outCells (sure p))
  rx : ∀ p, Reads X (x p) (was p).length (outCells (was p))
  bs : ∀ p k, (s p).ownBlock = some k → k ≠ g7 ∧ k ≠ g9 ∧ k ≠ g10
  bx : ∀ p k, (x p).ownBlock = some k → k ≠ g7 ∧ k ≠ g9 ∧ k ≠ g10
  lo : w.heap.size ≤ g7 ∧ w.heap.size ≤ g9 ∧ w.heap.size ≤ g10 ∧ g7 ≠ g9 ∧ g7 ≠ g10 ∧ g9 ≠ g10

theorem GSt.kept {w X X' : World} {o o' d g7 g9 g10 : Nat} {op : Gop} {S S' : OSt} {s x : Bool → Value} {sure was : Bool → List OutX} (h : GSt w X o d g7 g9 g10 op S s x sure was)
    (hs : X.heap.size ≤ X'.heap.size) (hk : ∀ k, Kg g7 g9 g10 s x k → X'.heap[k]? = X.heap[k]?) (ho : OutK (Fr.all w) X' o' d S' (Kg g7 g9 g10 s x)) : GSt w X' o' d g7 g9 g10 op S' s x sure was :=
  ⟨ho, (hk g7 (.inl rfl)).trans h.c7, (hk g9 (.inr (.inl rfl))).trans h.c9, (hk g10 (.inr (.inr (.inl rfl)))).trans h.c10, fun p => (h.rs p).ownKept hs (fun g hg => hk g (.inr (.inr (.inr (.inl ⟨p, hg⟩))))), fun p => (h.rx p).ownKept hs (fun g hg => hk g (.inr (.inr (.inr (.inr ⟨p, hg⟩))))), h.bs, h.bx, h.lo⟩
theorem GSt.call {w X : World} {o d g7 g9 g10 : Nat} {op : Gop} {S : OSt} {s x : Bool → Value} {sure was : Bool → List OutX} (h : GSt w X o d g7 g9 g10 op S s x sure was) :
    ∃ f : Fr, (∀ k, k < w.heap.size → f.K k) ∧ OutLive f X o d S ∧ ∀ X' o' S', OutLive f X' o' d S' → GSt w X' o' d g7 g9 g10 op S' s x sure was := by
  obtain ⟨f, hfK, hfw, hl, hback⟩ := h.out.callK
  refine ⟨f, fun k hk => hfK k (.inl hk), hl, fun X' o' S' h' => h.kept ?_ (fun k hk => ?_) (hback _ _ _ h')⟩
  · have := h'.old.size
    rwa [hfw] at this
  · have := h'.old.block k (hfK k (.inr hk))
    rwa [hfw] at this
theorem GSt.below {w X X' : World} {o d g7 g9 g10 : Nat} {op : Gop} {S : OSt} {s x : Bool → Value} {sure was : Bool → List OutX} (h : GSt w X o d g7 g9 g10 op S s x sure was) (hb : Below X.heap.size X X') : GSt w X' o d g7 g9 g10 op S s x sure was := by
  have hk : ∀ k, Kg g7 g9 g10 s x k → k < X.heap.size := by
    obtain ⟨b, l, col, -, h2⟩ := h.out
    exact fun k hk => (h2 k hk).2
  exact h.kept hb.size (fun k hk' => hb.block k (hk k hk')) ((h.out.grow hb).less (fun k hk => .inl hk))
theorem GSt.lt {w X : World} {o d g7 g9 g10 : Nat} {op : Gop} {S : OSt} {s x : Bool → Value} {sure was : Bool → List OutX} (h : GSt w X o d g7 g9 g10 op S s x sure was) : ∀ k, Kg g7 g9 g10 s x k → k < X.heap.size := by
  obtain ⟨b, l, col, -, h2⟩ := h.out
  exact fun k hk => (h2 k hk).2

/-- A cell of an array of two, set. -/
theorem arr_set {X : World} {g : Nat} {f : Bool → Value} (h : X.heap[g]? = some (.cells #[f false, f true] 74)) (p : Bool) (v : Value) :
    (X.setCell ⟨g, idx p, none⟩ v).heap[g]? = some (.cells #[upd f p v false, upd f p v true] 74) := by
  rw [cells_set h]
  cases p
  · rw [upd_same, upd_ne _ _ (by decide)]; rfl
  · rw [upd_same, upd_ne _ _ (by decide)]; rfl
theorem GSt.setWas {w X X' : World} {o d g7 g9 g10 : Nat} {op : Gop} {S : OSt} {s x : Bool → Value} {sure was : Bool → List OutX} (h : GSt w X o d g7 g9 g10 op S s x sure was) (hb : Below X.heap.size X X') (p : Bool) (v : Value) (row : List OutX) (hown : X'.ownsRow X.heap.size 84 2 v row.length (outCells row)) :
    GSt w (X'.setCell ⟨g10, idx p, none⟩ v) o d g7 g9 g10 op S s (upd x p v) sure (upd was p row) := by
  have hlt := h.lt
  have hov := own_out hown
  have hlo := h.lo
  have hset : ∀ k, k ≠ g10 → (X'.setCell ⟨g10, idx p, none⟩ v).heap[k]? = X'.heap[k]? := fun k hk => Below.heap_setCell _ _ _ _ hk
  have hX' := h.below hb
  have hg7 := hlt g7 (.inl rfl)
  have hg9 := hlt g9 (.inr (.inl rfl))
  have hg10 := hlt g10 (.inr (.inr (.inl rfl)))
  have hbx : ∀ q k, (upd x p v q).ownBlock = some k → k ≠ g7 ∧ k ≠ g9 ∧ k ≠ g10 := fun q k hk => by
    by_cases hq : q = p
    · rw [hq, upd_same] at hk
      have := hov k hk
      exact ⟨by omega, by omega, by omega⟩
    · rw [upd_ne _ _ hq] at hk
      exact h.bx q k hk
  refine ⟨?_, (hset g7 hlo.2.2.2.2.1).trans hX'.c7, (hset g9 hlo.2.2.2.2.2).trans hX'.c9, arr_set hX'.c10 p v, fun q => (hX'.rs q).ownKept (by simp) (fun g hg => hset g (h.bs q g hg).2.2), fun q => ?_, h.bs, hbx, hlo⟩
  · have h1 := (h.out.grow hb).only (X := fun k => k = g10) (Only.setCell _ X' ⟨g10, idx p, none⟩ v rfl) (fun k hk => ⟨.inl (.inr (.inr (.inl hk))), fun e => by have e : k < w.heap.size := e; omega⟩)
    refine h1.less (fun k hk => ?_)
    rcases hk with e | e | e | ⟨q, e⟩ | ⟨q, e⟩
    · exact .inl (.inl (.inl e))
    · exact .inl (.inl (.inr (.inl e)))
    · exact .inl (.inl (.inr (.inr (.inl e))))
    · exact .inl (.inl (.inr (.inr (.inr (.inl ⟨q, e⟩)))))
    · by_cases hq : q = p
      · rw [hq, upd_same] at e
        have := hov k e
        exact .inl (.inr ⟨this.1, this.2.1⟩)
      · rw [upd_ne _ _ hq] at e
        exact .inl (.inl (.inr (.inr (.inr (.inr ⟨q, e⟩)))))
  · by_cases hq : q = p
    · rw [hq, upd_same, upd_same]
      exact (Reads.own hown).ownKept (by simp) (fun g hg => hset g (by have := hov g hg; omega))
    · rw [upd_ne _ _ hq, upd_ne _ _ hq]
      exact (hX'.rx q).ownKept (by simp) (fun g hg => hset g (h.bx q g hg).2.2)
/-- The row that counts now, laid into the array that is kept. -/
theorem GSt.setSure {w X : World} {o d g7 g9 g10 : Nat} {op : Gop} {S : OSt} {s x : Bool → Value} {sure was : Bool → List OutX} (h : GSt w X o d g7 g9 g10 op S s x sure was) (p : Bool) (v : Value) (row : List OutX) (hr : Reads X v row.length (outCells row)) (hk : OutK (Fr.all w) X o d S (fun k => Kg g7 g9 g10 s x k ∨ v.ownBlock = some k)) (hv : ∀ k, v.ownBlock = some k → k ≠ g7 ∧ k ≠ g9 ∧ k ≠ g10) :
    GSt w (X.setCell ⟨g7, idx p, none⟩ v) o d g7 g9 g10 op S (upd s p v) x (upd sure p row) was := by
  have hlo := h.lo
  have hset : ∀ k, k ≠ g7 → (X.setCell ⟨g7, idx p, none⟩ v).heap[k]? = X.heap[k]? := fun k hk => Below.heap_setCell _ _ _ _ hk
  have hbs : ∀ q k, (upd s p v q).ownBlock = some k → k ≠ g7 ∧ k ≠ g9 ∧ k ≠ g10 := fun q k hk => by
    by_cases hq : q = p
    · rw [hq, upd_same] at hk
      exact hv k hk
    · rw [upd_ne _ _ hq] at hk
      exact h.bs q k hk
  refine ⟨?_, arr_set h.c7 p v, (hset g9 (Ne.symm hlo.2.2.2.1)).trans h.c9, (hset g10 (Ne.symm hlo.2.2.2.2.1)).trans h.c10, fun q => ?_, fun q => (h.rx q).ownKept (by simp) (fun g hg => hset g (h.bx q g hg).1), hbs, h.bx, hlo⟩
  · have h1 := hk.only (X := fun k => k = g7) (Only.setCell _ X ⟨g7, idx p, none⟩ v rfl) (fun k hk => ⟨.inl (.inl hk), fun e => by have e : k < w.heap.size := e; omega⟩)
    refine h1.less (fun k hk => ?_)
    rcases hk with e | e | e | ⟨q, e⟩ | ⟨q, e⟩
    · exact .inl (.inl (.inl e))
    · exact .inl (.inl (.inr (.inl e)))
    · exact .inl (.inl (.inr (.inr (.inl e))))
    · by_cases hq : q = p
      · rw [hq, upd_same] at e
        exact .inl (.inr e)
      · rw [upd_ne _ _ hq] at e
        exact .inl (.inl (.inr (.inr (.inr (.inl ⟨q, e⟩)))))
    · exact .inl (.inl (.inr (.inr (.inr (.inr ⟨q, e⟩)))))
  · by_cases hq : q = p
    · rw [hq, upd_same, upd_same]
      exact hr.ownKept (by simp) (fun g hg => hset g (hv g hg).1)
    · rw [upd_ne _ _ hq, upd_ne _ _ hq]
      exact (h.rs q).ownKept (by simp) (fun g hg => hset g (h.bs q g hg).1)
theorem GSt.setSure2 {w X Y : World} {o d g7 g9 g10 : Nat} {op : Gop} {S : OSt} {s x : Bool → Value} {sure was : Bool → List OutX} (h : GSt w X o d g7 g9 g10 op S s x sure was) (hb : Below X.heap.size X Y) (p : Bool) (v : Value) (row : List OutX) (hown : Y.ownsRow X.heap.size 84 2 v row.length (outCells row)) :
    GSt w (Y.setCell ⟨g7, idx p, none⟩ v) o d g7 g9 g10 op S (upd s p v) x (upd sure p row) was := by
  have hov := own_out hown
  have hlt := h.lt
  have hg7 := hlt g7 (.inl rfl)
  have hg9 := hlt g9 (.inr (.inl rfl))
  have hg10 := hlt g10 (.inr (.inr (.inl rfl)))
  refine (h.below hb).setSure p v row (Reads.own hown) ((h.out.grow hb).less (fun k hk => ?_)) (fun k hk => by have := hov k hk; omega)
  rcases hk with hk | hk
  · exact .inl hk
  · have := hov k hk
    exact .inr ⟨this.1, this.2.1⟩
theorem GSt.cellW {w X : World} {o d g7 g9 g10 : Nat} {op : Gop} {S : OSt} {s x : Bool → Value} {sure was : Bool → List OutX} (h : GSt w X o d g7 g9 g10 op S s x sure was) (p : Bool) : X.cell? ⟨g10, idx p, none⟩ = some (x p) := by
  cases p
  · exact cells_at h.c10 0 _ rfl
  · exact cells_at h.c10 1 _ rfl
theorem GSt.cellS {w X : World} {o d g7 g9 g10 : Nat} {op : Gop} {S : OSt} {s x : Bool → Value} {sure was : Bool → List OutX} (h : GSt w X o d g7 g9 g10 op S s x sure was) (p : Bool) : X.cell? ⟨g7, idx p, none⟩ = some (s p) := by
  cases p
  · exact cells_at h.c7 0 _ rfl
  · exact cells_at h.c7 1 _ rfl
theorem GSt.cellO {w X : World} {o d g7 g9 g10 : Nat} {op : Gop} {S : OSt} {s x : Bool → Value} {sure was : Bool → List OutX} (h : GSt w X o d g7 g9 g10 op S s x sure was) : X.cell? ⟨g9, 0, none⟩ = some (.int .i64 op.kind) ∧ X.cell? ⟨g9, 1, none⟩ = some (.int .i64 op.n) ∧ X.cell? ⟨g9, 2, none⟩ = some (.int .i64 op.m) ∧ X.cell? ⟨g9, 3, none⟩ = some (.int .i64 op.t) ∧ X.cell? ⟨g9, 4, none⟩ = some op.v :=
  ⟨cells_at h.c9 0 _ rfl, cells_at h.c9 1 _ rfl, cells_at h.c9 2 _ rfl, cells_at h.c9 3 _ rfl, cells_at h.c9 4 _ rfl⟩
/-- The kept array copied over the other one. -/
theorem GSt.copy {w X X' : World} {o d g7 g9 g10 : Nat} {op : Gop} {S : OSt} {s x : Bool → Value} {sure was : Bool → List OutX} (h : GSt w X o d g7 g9 g10 op S s x sure was) (ho : Only (fun k => k = g10) X X') (hc : X'.heap[g10]? = some (.cells #[s false, s true] 74)) :
    GSt w X' o d g7 g9 g10 op S s s sure sure := by
  have hlo := h.lo
  have hlt := h.lt
  have hset : ∀ k, Kg g7 g9 g10 s x k → k ≠ g10 → X'.heap[k]? = X.heap[k]? := fun k hk hn => ho.block k (hlt k hk) hn
  have hrs : ∀ p, Reads X' (s p) (sure p).length (outCells (sure p)) := fun p => (h.rs p).ownKept ho.size (fun g hg => hset g (.inr (.inr (.inr (.inl ⟨p, hg⟩)))) (h.bs p g hg).2.2)
  refine ⟨?_, (hset g7 (.inl rfl) hlo.2.2.2.2.1).trans h.c7, (hset g9 (.inr (.inl rfl)) hlo.2.2.2.2.2).trans h.c9, hc, hrs, hrs, h.bs, h.bs, hlo⟩
  refine (h.out.only ho (fun k hk => ⟨.inr (.inr (.inl hk)), fun e => by have e : k < w.heap.size := e; omega⟩)).less (fun k hk => ?_)
  rcases hk with e | e | e | ⟨q, e⟩ | ⟨q, e⟩
  · exact .inl (.inl e)
  · exact .inl (.inr (.inl e))
  · exact .inl (.inr (.inr (.inl e)))
  · exact .inl (.inr (.inr (.inr (.inl ⟨q, e⟩))))
  · exact .inl (.inr (.inr (.inr (.inl ⟨q, e⟩))))

/-- Between two calls. -/
structure GLoop (w X : World) (o d g7 : Nat) (S : OSt) (s : Bool → Value) (sure : Bool → List OutX) : Prop where
  out : OutK (Fr.all w) X o d S (fun k => k = g7 ∨ ∃ p, (s p).ownBlock = some k)
  c7 : X.heap[g7]? = some (.cells #[s false, s true] 74)
  rs : ∀ p, Reads X (s p) (sure p).length (outCells (sure p))
  bs : ∀ p k, (s p).ownBlock = some k → k ≠ g7
  lo : w.heap.size ≤ g7
theorem GSt.loop {w X : World} {o d g7 g9 g10 : Nat} {op : Gop} {S : OSt} {s x : Bool → Value} {sure was : Bool → List OutX} (h : GSt w X o d g7 g9 g10 op S s x sure was) : GLoop w X o d g7 S s sure :=
  ⟨h.out.less (fun _ hk => hk.elim (fun e => .inl e) (fun e => .inr (.inr (.inr (.inl e))))), h.c7, h.rs, fun p k hk => (h.bs p k hk).1, h.lo.1⟩
theorem GLoop.enter {w X : World} {o d g7 : Nat} {S : OSt} {s : Bool → Value} {sure : Bool → List OutX} (h : GLoop w X o d g7 S s sure) (op : Gop) :
    GSt w ((X.alloc (.cells #[.int .i64 op.kind, .int .i64 op.n, .int .i64 op.m, .int .i64 op.t, op.v] 76)).alloc (.cells #[.slice none 0 0, .slice none 0 0] 74)) o d g7 X.heap.size (X.heap.size + 1) op S s (fun _ => .slice none 0 0) sure (fun _ => []) := by
  obtain ⟨Y, hY⟩ : ∃ Y, X.alloc (.cells #[.int .i64 op.kind, .int .i64 op.n, .int .i64 op.m, .int .i64 op.t, op.v] 76) = Y := ⟨_, rfl⟩
  have hYs : Y.heap.size = X.heap.size + 1 := by rw [← hY]; simp
  have hYn : Y.heap[X.heap.size]? = some (.cells #[.int .i64 op.kind, .int .i64 op.n, .int .i64 op.m, .int .i64 op.t, op.v] 76) := by rw [← hY]; exact heap_alloc_new X _
  have hbY : Below X.heap.size X Y := by rw [← hY]; exact bel_alloc _ _
  rw [hY]
  have hbZ := bel_alloc Y (.cells #[.slice none 0 0, .slice none 0 0] 74)
  have hZn := heap_alloc_new Y (.cells #[.slice none 0 0, .slice none 0 0] 74)
  rw [hYs] at hZn
  have hb := bel_trans hbY hbZ
  have hK : ∀ k, (k = g7 ∨ ∃ p, (s p).ownBlock = some k) → k < X.heap.size := by
    obtain ⟨b, l, col, -, h2⟩ := h.out
    exact fun k hk => (h2 k hk).2
  have hg7 := hK g7 (.inl rfl)
  have hlo := h.lo
  have hno : ∀ k, ¬ (Value.slice none 0 0).ownBlock = some k := fun k hk => by simp [Value.ownBlock] at hk
  refine ⟨(h.out.grow hb).less (fun k hk => ?_), (hb.block g7 hg7).trans h.c7, (hbZ.block _ (by omega)).trans hYn, hZn, fun p => (h.rs p).ownKept hb.size (fun g hg => hb.block g (hK g (.inr ⟨p, hg⟩))), fun p => Reads.nil _, fun p k hk => ⟨h.bs p k hk, by have := hK k (.inr ⟨p, hk⟩); omega, by have := hK k (.inr ⟨p, hk⟩); omega⟩, fun p k hk => absurd hk (hno k), by omega, by omega, by omega, by omega, by omega, by omega⟩
  have hZs : (Y.alloc (.cells #[.slice none 0 0, .slice none 0 0] 74)).heap.size = X.heap.size + 2 := by simp [hYs]
  rcases hk with e | e | e | e | ⟨q, e⟩
  · exact .inl (.inl e)
  · exact .inr ⟨by omega, by omega⟩
  · exact .inr ⟨by omega, by omega⟩
  · exact .inl (.inr e)
  · exact absurd e (hno k)

end Go.Proofs.Ytllecjhfbojgcaa
