/-
  A change that is made.
-/
import Derived.Test.YtllecjhfbojgcaaDiskChange
import Derived.Deep.RegionLaw
import Derived.BigRegion
namespace Go.Proofs.Ytllecjhfbojgcaa
open Go.RowKit
set_option maxRecDepth 20000

set_option maxHeartbeats 4000000 in
set_option maxRecDepth 100000 in
theorem change_on (w : World) (d : Nat) (S : Dk.St) (F : Nat → Prop) (h : DiskAt w d S F) (c : Dk.Ch) (x y : Value) (hch : ChAt w F c x y) (hok : c.ok S.now) (ht : Dk.total (c.run S.now) ≤ S.room) (hm : S.loose.length ≤ 1000000000) (hl : S.left ≠ 0) :
    Calls Try.prog 91 #[ptr d 0, .agg #[x, y]] w fun e w' => e = .returned (.int .i64 (Dk.change S c).1) ∧ Turned w w' d (Dk.change S c).2 F := by
  obtain ⟨i0, hi0, hz0, hz1, hz2⟩ := info_parts infoChange
  have hA := h.below (bel_alloc w (.cells #[x, y] 113))
  have hchA := hch.kept (w' := w.alloc (.cells #[x, y] 113)) (fun k hk => (bel_alloc w _).block k (h.lt k hk)) (fun _ hk => hk)
  have hone := hch.one
  obtain ⟨S1, hop, h1n, h1s, h1l, hE⟩ : ∃ S1 : Dk.St, Dk.op S = (0, S1) ∧ S1.now = S.now ∧ S1.sure.length = 16 ∧ S1.loose = S.loose ∧ Dk.change S c = (0, { ({ S1 with now := c.run S1.now } : Dk.St) with loose := S.loose ++ [c] }) := by
    refine ⟨{ S with left := Dk.less S.left }, ?_, rfl, h.ok.sureL, rfl, ?_⟩
    · unfold Dk.op Dk.less
      rw [if_neg hl]
      split <;> rfl
    · exact if_neg hl
  have hroom := h.ok.room
  have HLT := Lib.hid h.lt
  have HMEM := Lib.hid h.mem
  have HA := Lib.hid hA
  have HCHA := Lib.hid hchA
  have HONE := Lib.hid hone
  have HOP := Lib.hid hop
  have HOK := Lib.hid hok
  have HT := Lib.hid ht
  have HE := Lib.hid hE
  have hfin := Dk.change_ok h.ok c hok ht
  rw [hE] at hfin
  have HFIN := Lib.hid hfin
  have HL1 := Lib.hid h1l
  have HC1 := Lib.hid (show c.ok S1.now by rw [h1n]; exact hok)
  have HC2 := Lib.hid (show Dk.total (c.run S1.now) ≤ 4194304 by rw [h1n]; omega)
  have HC3 := Lib.hid (show (c.run S1.now).length = 16 by rw [Dk.run_len, h1n, h.ok.nowL])
  have HS1 := Lib.hid h1s
  clear h hA hop hl hch hchA hone hok ht h1n h1s h1l hE hfin
  unfold ptr
  go_enter Try.func91, Try.ntmps91
  go_wp2_with fail
  refine (op_any _ d S F HA.out).mono ?_
  rintro e w1 ⟨rfl, ho1, hD1⟩
  rw [HOP.out] at hD1 ⊢
  obtain ⟨lv, hc1, hlo1⟩ := hD1.cells
  have hx1 : w1.heap[w.heap.size]? = some (.cells #[x, y] 113) := (ho1.block _ (by simp) (fun hf => by have := HLT.out _ HMEM.out; omega)).trans (heap_alloc_new w _)
  have HO1 := Lib.hid ho1
  have HN := Lib.hid hD1.ok.nowL
  have HS := Lib.hid hD1.ok.sureL
  have HLT1 := Lib.hid hD1.lt
  have HCC := Lib.hid hc1
  have HLO1 := Lib.hid hlo1
  have HX1 := Lib.hid hx1
  have hdA : ∃ D, (w.alloc (.cells #[x, y] 113)).heap[d]? = some (.cells D 92) := by obtain ⟨lo, hc, -⟩ := HA.out.cells; exact ⟨_, hc⟩
  obtain ⟨DA, hDA⟩ := hdA
  have HCH1 := Lib.hid (HCHA.out.turn (w' := w1) hDA (fun k hk hne => ho1.block k hk hne))
  clear hDA
  have q0 := cells_at hx1 0 _ rfl
  have q1 := cells_at hx1 1 _ rfl
  simp only [List.getElem_toArray, List.getElem_cons_zero, List.getElem_cons_succ] at q0 q1
  obtain ⟨k, c1, c2, rfl, hent, hcall⟩ := does_now (w := w1.drew) hc1 HN.out (HCH1.out.kept (w' := w1.drew) (fun _ _ => rfl) (fun _ hk => hk)) HC1.out HC2.out
  have HCALL := Lib.hid hcall
  have HENT := Lib.hid hent
  clear ho1 hD1 hc1 hlo1 hx1 hcall
  go_wp2_with fail
  refine wp_region_still_tail 5 (by kernel_rfl) (by kernel_rfl) ?_
  simp only [List.take_succ_cons, List.take_zero, List.drop_succ_cons, List.drop_zero]
  change wpStill _ _ w1.drew (fun a' => wpList _ _ _ _ a' w1.drew) _ _
  repeat still_step
  refine wpStill_nil ?_
  go_wp2_with fail
  refine HCALL.out.mono ?_
  rintro e w2 ⟨rfl, ho2, hc2, hs2⟩
  have ho2' : Only (fun k => k = d) w1 w2 := ⟨ho2.os, ho2.tape, ho2.output, ho2.size, ho2.block⟩
  have hsz1 : w.heap.size < w1.heap.size := (Array.getElem?_eq_some_iff.1 HX1.out).1
  have hdw : d < w.heap.size := HLT.out d HMEM.out
  have hx2 : w2.heap[w.heap.size]? = some (.cells #[.func (.func k) #[] #[c1, c2], y] 113) := (ho2'.block _ hsz1 (by omega)).trans HX1.out
  have hlo2 := HLO1.out.turn HCC.out (w' := w2) (fun k hk hne => ho2'.block k hk hne)
  have hch2 := HCH1.out.turn HCC.out (w' := w2) (fun k hk hne => ho2'.block k hk hne)
  have hon2 : Only F w w2 := (Only.below (bel_alloc w _)).trans ((HO1.out.trans ho2').mono (fun i e => e ▸ HMEM.out))
  rw [HL1.out] at hlo2
  obtain ⟨vs, h1, h2, h3, h4⟩ := hlo2
  obtain ⟨la, lc, rfl⟩ := (Reads.own h1).shape
  have q0 := cells_at hx2 0 _ rfl
  have q1 := cells_at hx2 1 _ rfl
  simp only [List.getElem_toArray, List.getElem_cons_zero, List.getElem_cons_succ] at q0 q1
  have q33 := cells_at hc2 33 _ (diskC_at33 (S := { S1 with now := c.run S1.now }) HC3.out HS1.out _)
  have r33 := cells_free hc2 33
  have hdlt : d < w2.heap.size := (Array.getElem?_eq_some_iff.1 hc2).1
  have hsz2 : w.heap.size < w2.heap.size := (Array.getElem?_eq_some_iff.1 hx2).1
  have H1 := Lib.hid h1
  have H2 := Lib.hid h2
  have H3 := Lib.hid h3
  have H4 := Lib.hid h4
  have HCX := Lib.hid hc2
  have HX2 := Lib.hid hx2
  have HON2 := Lib.hid hon2
  have HCH2 := Lib.hid hch2
  have hfar : (Value.slice la S.loose.length lc).ownBlock ≠ some d := fun e => by
    rcases h1.2 with hh | ⟨g', cap', cur, hv, _, hcc, _⟩
    · rw [hh.1] at e; cases e
    · rw [hv] at e
      simp only [Value.ownBlock, Option.some.injEq] at e
      subst e
      exact far hcc hc2 (by decide) rfl
  have HFAR := Lib.hid hfar
  clear h1 h2 h3 h4 hc2 hx2 hon2 hch2 ho2 ho2' hfar hs2 hsz1 hdw
  go_wp2_with fail
  go_region_law (first
    | (refine step_append_lies _ (by rfl) _ _ _ rfl 0 113 i0 _ 2 16 Try.underlying90 hi0 hz0 hz1 hz2 rfl (by omega) _ S.loose.length _ (by rfl) (H1.out.alloc _).drew ⟨w2.heap.size, 0, none⟩ 1 1 [.func (.func k) #[] #[c1, c2], y] rfl rfl (World.news_of_block (cs := #[.func (.func k) #[] #[c1, c2], y]) (t := 113) (fr := (0, 0)) (heap_alloc_new w2 _)) HONE.out (by omega) (by unfold maxLen; omega) (by omega) (by simp) (w2.heap.size + 1) (by simp) ?_; intro gg cap w3 hown1 hgrow hat hltg; have q2 := (World.cell?_of_block (hgrow.block d (by simp; omega) (Ne.symm HFAR.out))).trans ((World.cell?_of_block (Below.heap_alloc w2 _ d hdlt)).trans q33); have qf := (World.frozen?_of_block (hgrow.block d (by simp; omega) (Ne.symm HFAR.out))).trans ((World.frozen?_of_block (Below.heap_alloc w2 _ d hdlt)).trans r33)))
  all_goals
    have HO := Lib.hid hown1
    have HG := Lib.hid hgrow
    have HAT := Lib.hid hat
    clear hown1 hgrow hat q2 qf
    go_wp2_with fail
    go_ret
    rw [HE.out]
    refine ⟨rfl, ?_⟩
    refine change_end HLT.out HON2.out HMEM.out HCX.out H1.out H2.out H3.out H4.out HCH2.out ((bel_alloc w2 (.cells #[.func (.func k) #[] #[c1, c2], y] 113)).drew) HG.out HO.out ?_ hltg HC3.out HS1.out HFIN.out _ rfl rfl rfl rfl
    rcases HAT.out with h | h
    · exact .inl h
    · exact .inr (by simpa using h)

theorem change_any (w : World) (d : Nat) (S : Dk.St) (F : Nat → Prop) (h : DiskAt w d S F) (c : Dk.Ch) (x y : Value) (hch : ChAt w F c x y) (hok : c.ok S.now) (ht : Dk.total (c.run S.now) ≤ S.room) (hm : S.loose.length ≤ 1000000000) :
    Calls Try.prog 91 #[ptr d 0, .agg #[x, y]] w fun e w' => e = .returned (.int .i64 (Dk.change S c).1) ∧ Turned w w' d (Dk.change S c).2 F := by
  by_cases hl : S.left = 0
  · exact change_off w d S F h c x y hl
  · exact change_on w d S F h c x y hch hok ht hm hl

end Go.Proofs.Ytllecjhfbojgcaa
