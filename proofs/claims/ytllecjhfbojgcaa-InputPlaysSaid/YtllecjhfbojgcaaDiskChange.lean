/-
  A change walked: the operation, the closure, the row of loose changes.
-/
import Derived.Test.YtllecjhfbojgcaaDiskClos
import Derived.Deep.AppendLies
import Derived.Deep.RegionLaw
import Derived.BigRegion
namespace Go.Proofs.Ytllecjhfbojgcaa
open Go.RowKit
set_option maxRecDepth 20000

theorem LooseAt.turn {w w' : World} {d : Nat} {F : Nat → Prop} {l : List Dk.Ch} {lv : Value} {D : Array Value} (h : LooseAt w F l lv) (hc : w.heap[d]? = some (.cells D 92))
    (hk : ∀ k, k < w.heap.size → k ≠ d → w'.heap[k]? = w.heap[k]?) : LooseAt w' F l lv := by
  have hne : ∀ (b : Nat) (c : Array Value) (T : TypeId), w.heap[b]? = some (Obj.cells c T) → T ≠ 92 → w'.heap[b]? = w.heap[b]? := fun b c T hb hT => hk b (Array.getElem?_eq_some_iff.1 hb).1 (far hb hc hT)
  obtain ⟨vs, h1, h2, h3, h4⟩ := h
  refine ⟨vs, own_kept h1 ?_, h2, h3, fun i c hi => ?_⟩
  · intro g hg
    rcases h1.2 with hh | ⟨g', cap, cur, hv, _, hcc, _⟩
    · rw [hh.1] at hg; cases hg
    · rw [hv] at hg
      simp only [Value.ownBlock, Option.some.injEq] at hg
      subst hg
      exact hne _ _ _ hcc (by decide)
  · obtain ⟨p, hp, hch⟩ := h4 i c hi
    refine ⟨p, hp, ?_⟩
    generalize p.1 = x at hch ⊢
    generalize p.2 = y at hch ⊢
    cases hch with
    | app f s a b p ha hb hp fa fb fp => exact .app f s a b p ((hne _ _ _ ha (by decide)).trans ha) ((hne _ _ _ hb (by decide)).trans hb) ((hne _ _ _ hp (by decide)).trans hp) fa fb fp
    | cut f n a b ha hb fa fb => exact .cut f n a b ((hne _ _ _ ha (by decide)).trans ha) ((hne _ _ _ hb (by decide)).trans hb) fa fb
    | mov f g a b ha hb fa fb => exact .mov f g a b ((hne _ _ _ ha (by decide)).trans ha) ((hne _ _ _ hb (by decide)).trans hb) fa fb

theorem ChAt.turn {w w' : World} {d : Nat} {F : Nat → Prop} {c : Dk.Ch} {x y : Value} {D : Array Value} (h : ChAt w F c x y) (hc : w.heap[d]? = some (.cells D 92))
    (hk : ∀ k, k < w.heap.size → k ≠ d → w'.heap[k]? = w.heap[k]?) : ChAt w' F c x y := by
  have hne : ∀ (b : Nat) (c : Array Value) (T : TypeId), w.heap[b]? = some (Obj.cells c T) → T ≠ 92 → w'.heap[b]? = w.heap[b]? := fun b c T hb hT => hk b (Array.getElem?_eq_some_iff.1 hb).1 (far hb hc hT)
  cases h with
  | app f s a b p ha hb hp fa fb fp => exact .app f s a b p ((hne _ _ _ ha (by decide)).trans ha) ((hne _ _ _ hb (by decide)).trans hb) ((hne _ _ _ hp (by decide)).trans hp) fa fb fp
  | cut f n a b ha hb fa fb => exact .cut f n a b ((hne _ _ _ ha (by decide)).trans ha) ((hne _ _ _ hb (by decide)).trans hb) fa fb
  | mov f g a b ha hb fa fb => exact .mov f g a b ((hne _ _ _ ha (by decide)).trans ha) ((hne _ _ _ hb (by decide)).trans hb) fa fb

/-- A change's blocks are no rows of changes. -/
theorem ChAt.off {w w' : World} {g : Nat} {F : Nat → Prop} {c : Dk.Ch} {x y : Value} {cur : Array Value} (h : ChAt w F c x y) (hg : w.heap[g]? = some (.cells cur 113))
    (hk : ∀ k, k < w.heap.size → k ≠ g → w'.heap[k]? = w.heap[k]?) : ChAt w' F c x y := by
  have hne : ∀ (b : Nat) (c : Array Value) (T : TypeId), w.heap[b]? = some (Obj.cells c T) → T ≠ 113 → w'.heap[b]? = w.heap[b]? := fun b c T hb hT => hk b (Array.getElem?_eq_some_iff.1 hb).1 (far hb hg hT)
  cases h with
  | app f s a b p ha hb hp fa fb fp => exact .app f s a b p ((hne _ _ _ ha (by decide)).trans ha) ((hne _ _ _ hb (by decide)).trans hb) ((hne _ _ _ hp (by decide)).trans hp) fa fb fp
  | cut f n a b ha hb fa fb => exact .cut f n a b ((hne _ _ _ ha (by decide)).trans ha) ((hne _ _ _ hb (by decide)).trans hb) fa fb
  | mov f g a b ha hb fa fb => exact .mov f g a b ((hne _ _ _ ha (by decide)).trans ha) ((hne _ _ _ hb (by decide)).trans hb) fa fb

theorem ChAt.one {w : World} {F : Nat → Prop} {c : Dk.Ch} {x y : Value} (h : ChAt w F c x y) : ∀ u ∈ [x, y], u.oneCell' = true := by
  cases h <;> simp [appV, partV, cutV, movV, Value.oneCell']
theorem ChAt.mono {w : World} {F F' : Nat → Prop} {c : Dk.Ch} {x y : Value} (h : ChAt w F c x y) (hF : ∀ k, F k → F' k) : ChAt w F' c x y := h.kept (fun _ _ => rfl) hF

/-- Behind the append, and the store of the row. -/
theorem change_end {w w2 W w3 : World} {d g cap : Nat} {S2 : Dk.St} {F : Nat → Prop} {l : List Dk.Ch} {lv x y : Value} {c : Dk.Ch} {vs : List (Value × Value)}
    (hlt : ∀ k, F k → k < w.heap.size) (hon : Only F w w2) (hmem : F d) (hc2 : w2.heap[d]? = some (.cells (diskCells S2 lv) 92))
    (h1 : w2.ownsRow 0 113 2 lv l.length (pairs vs)) (h2 : ∀ g, lv.ownBlock = some g → F g) (h3 : vs.length = l.length) (h4 : ∀ (i : Nat) (c : Dk.Ch), l[i]? = some c → ∃ p : Value × Value, vs[i]? = some p ∧ ChAt w2 F c p.1 p.2)
    (hch : ChAt w2 F c x y) (hW : Below w2.heap.size w2 W) (hgr : W.grownBy w3 lv.ownBlock)
    (hown : w3.ownsRow 0 113 2 (.slice (some ⟨g, 0, none⟩) (l.length + 1) cap) (l.length + 1) (pairs vs ++ [x, y])) (hat : lv.ownBlock = some g ∨ g = W.heap.size) (hglt : g < w3.heap.size)
    (hn : S2.now.length = 16) (hs : S2.sure.length = 16) (hok : Dk.Ok { S2 with loose := l ++ [c] }) (w4 : World) (h4w : w4.heap = (w3.setCell ⟨d, 33, none⟩ (.slice (some ⟨g, 0, none⟩) (l.length + 1) cap)).heap) (ho4 : w4.os = w3.os) (ht4 : w4.tape = w3.tape) (hp4 : w4.output = w3.output) :
    Turned w w4 d { S2 with loose := l ++ [c] } F := by
  have hlv : ∀ b, lv.ownBlock = some b → ∃ cur, w2.heap[b]? = some (.cells cur 113) := fun b hb => by
    rcases h1.2 with hh | ⟨g', cap', cur, hv, _, hcc, _⟩
    · rw [hh.1] at hb; cases hb
    · rw [hv] at hb
      simp only [Value.ownBlock, Option.some.injEq] at hb
      subst hb
      exact ⟨_, hcc⟩
  have hdlt := (Array.getElem?_eq_some_iff.1 hc2).1
  have hdl : lv.ownBlock ≠ some d := fun e => by
    obtain ⟨cur, hcur⟩ := hlv d e
    exact far hcur hc2 (by decide) rfl
  have hWs := hW.size
  have hkeep : ∀ k, k < w2.heap.size → some k ≠ lv.ownBlock → w3.heap[k]? = w2.heap[k]? := fun k hk hne => (hgr.block k (by omega) hne).trans (hW.block k hk)
  have hc3 : w3.heap[d]? = some (.cells (diskCells S2 lv) 92) := (hkeep d hdlt (Ne.symm hdl)).trans hc2
  have hgd : g ≠ d := by
    rcases hat with h | h
    · intro e; rw [e] at h; exact hdl h
    · omega
  have hon3 : Only F w w3 := by
    refine ⟨(hgr.os.trans hW.os).trans hon.os, (hgr.tape.trans hW.tape).trans hon.tape, (hgr.output.trans hW.output).trans hon.output, Nat.le_trans hon.size (Nat.le_trans hWs hgr.size), fun k hk hs => ?_⟩
    have := hon.size
    rw [hkeep k (by omega) (fun e => hs (h2 k e.symm)), hon.block k hk hs]
  have hset : ∀ k, k ≠ d → w4.heap[k]? = w3.heap[k]? := fun k hk => by rw [h4w]; exact Below.heap_setCell _ _ _ _ (by exact hk)
  have hsz : w4.heap.size = w3.heap.size := by rw [h4w]; simp
  have hon4 : Only F w w4 := ⟨ho4.trans hon3.os, ht4.trans hon3.tape, hp4.trans hon3.output, by rw [hsz]; exact hon3.size, fun k hk hs => by rw [hset k (fun e => hs (e ▸ hmem))]; exact hon3.block k hk hs⟩
  refine ⟨fun k => F k ∨ k = g, hon4, ⟨hok, .inl hmem, fun k hk => ?_, .slice (some ⟨g, 0, none⟩) (l.length + 1) cap, ?_, ?_⟩, fun k hk => ?_⟩
  · have := hon3.size
    rcases hk with hk | hk
    · have := hlt k hk; omega
    · omega
  · rw [h4w, cells_set hc3, (diskC_set hn hs lv).1]
    rfl
  · refine ⟨vs ++ [(x, y)], ?_, fun b hb => ?_, by simp [h3], fun i c' hi => ?_⟩
    · show w4.ownsRow 0 _ 2 _ (l ++ [c]).length _
      rw [pairs_snoc, List.length_append]
      refine own_kept hown (fun b hb => ?_)
      simp only [Value.ownBlock, Option.some.injEq] at hb
      subst hb
      exact hset _ hgd
    · simp only [Value.ownBlock, Option.some.injEq] at hb
      exact .inr hb.symm
    · have hkeepc : ∀ (c'' : Dk.Ch) (x' y' : Value), ChAt w2 F c'' x' y' → ChAt w4 (fun k => F k ∨ k = g) c'' x' y' := fun c'' x' y' hh => by
        have hA : ChAt w3 F c'' x' y' := by
          cases hb : lv.ownBlock with
          | none => exact hh.kept (fun k hk => hkeep k (by have := hlt k hk; have := hon.size; omega) (by rw [hb]; simp)) (fun _ h => h)
          | some b =>
            obtain ⟨cur, hcur⟩ := hlv b hb
            exact hh.off hcur (fun k hk hne => hkeep k hk (by rw [hb]; simpa using hne))
        exact (hA.turn hc3 (fun k hk hne => hset k hne)).mono (fun _ h => .inl h)
      by_cases hi' : i < l.length
      · rw [List.getElem?_append_left hi'] at hi
        obtain ⟨p, hp, hcp⟩ := h4 i c' hi
        exact ⟨p, by rw [List.getElem?_append_left (by omega)]; exact hp, hkeepc _ _ _ hcp⟩
      · rw [List.getElem?_append_right (by omega)] at hi
        have hi0 : i - l.length = 0 := by
          have := (List.getElem?_eq_some_iff.1 hi).1
          simp at this
          omega
        rw [hi0] at hi
        simp only [List.getElem?_cons_zero, Option.some.injEq] at hi
        subst hi
        exact ⟨(x, y), by rw [List.getElem?_append_right (by omega), show i - vs.length = 0 by omega]; rfl, hkeepc _ _ _ hch⟩
  · rcases hk with hk | hk
    · exact .inl hk
    · rcases hat with h | h
      · exact .inl (hk ▸ h2 g h)
      · right
        have := hon.size
        omega

theorem diskC_at33 {S : Dk.St} (hn : S.now.length = 16) (hs : S.sure.length = 16) (lv : Value) : (diskCells S lv)[33]? = some lv := by
  show (diskL S lv).toArray[33]? = _
  rw [List.getElem?_toArray]
  simp [diskL, hn, hs]
theorem infoChange : (Try.prog.info? 113).map (fun i => (i.zero, i.size, i.bytes)) = some (some (.agg #[.nilFunc, .nilFunc]), 2, 16) := by kernel_rfl

theorem change_off (w : World) (d : Nat) (S : Dk.St) (F : Nat → Prop) (h : DiskAt w d S F) (c : Dk.Ch) (x y : Value) (hl : S.left = 0) :
    Calls Try.prog 91 #[ptr d 0, .agg #[x, y]] w fun e w' => e = .returned (.int .i64 (Dk.change S c).1) ∧ Turned w w' d (Dk.change S c).2 F := by
  have hA := h.below (bel_alloc w (.cells #[x, y] 113))
  have hop : Dk.op S = (50, { S with off := true }) := if_pos hl
  have HA := Lib.hid hA
  have HOP := Lib.hid hop
  have HE := Lib.hid (show Dk.change S c = (50, { S with off := true }) from if_pos hl)
  clear h hA hop hl
  unfold ptr
  go_enter Try.func91, Try.ntmps91
  go_wp2_with fail
  refine (op_any _ d S F HA.out).mono ?_
  rintro e w1 ⟨rfl, ho1, hD1⟩
  rw [HOP.out] at hD1 ⊢
  have HO1 := Lib.hid ho1
  have HD1 := Lib.hid hD1
  clear ho1 hD1
  go_wp2_with fail
  go_ret
  rw [HE.out]
  exact ⟨rfl, F, (Only.below (bel_alloc _ _)).trans (HO1.out.mono (fun i e => e ▸ HA.out.mem)), HD1.out, fun k hk => .inl hk⟩

end Go.Proofs.Ytllecjhfbojgcaa

/-
  A change that is made.
-/
namespace Go.Proofs.Ytllecjhfbojgcaa
open Go.RowKit
set_option maxRecDepth 20000

set_option maxHeartbeats 4000000 in
set_option maxRecDepth 100000 in
theorem change_on (w : World) (d : Nat) (S : Dk.St) (F : Nat → Prop) (h : DiskAt w d S F) (c : Dk.Ch) (x y : Value) (hch : ChAt w F c x y) (hok : c.ok S.now) (ht : Dk.total (c.run S.now) ≤ S.room) (hm : S.loose.length ≤ 1000000000) (hl : S.left ≠ 0) :
    Calls Try.prog 91 #[ptr d 0, .agg #[x, y]] w fun e w' => e = .returned (.int .i64 (Dk.change S c).1) ∧ Turned w w' d (Dk.change S c).2 F := by
  obtain ⟨i0, hi0, hz0, hz1, hz2⟩ := info_parts infoChange
  have hA := h.below (bel_alloc w (.cells #[x, y] 113))
  have hchA := hch.kept (w' := w.alloc (.cells #[x, y] 113)) (fun k hk => (bel_alloc w _).block k (h.lt k hk)) (fun _ hk => hk)
  have hone := hch.one
  obtain ⟨S1, hop, h1n, h1s, h1l, hE⟩ : ∃ S1 : Dk.St, Dk.op S = (0, S1) ∧ S1.now = S.now ∧ S1.sure.length = 16 ∧ S1.loose = S.loose ∧ Dk.change S c = (0, { ({ S1 with now := c.run S1.now } : Dk.St) with loose := S.loose ++ [c] }) := by
    refine ⟨{ S with left := Dk.less S.left }, ?_, rfl, h.ok.sureL, rfl, ?_⟩
    · unfold Dk.op Dk.less
      rw [if_neg hl]
      split <;> rfl
    · exact if_neg hl
  have hroom := h.ok.room
  have HLT := Lib.hid h.lt
  have HMEM := Lib.hid h.mem
  have HA := Lib.hid hA
  have HCHA := Lib.hid hchA
  have HONE := Lib.hid hone
  have HOP := Lib.hid hop
  have HOK := Lib.hid hok
  have HT := Lib.hid ht
  have HE := Lib.hid hE
  have hfin := Dk.change_ok h.ok c hok ht
  rw [hE] at hfin
  have HFIN := Lib.hid hfin
  have HL1 := Lib.hid h1l
  have HC1 := Lib.hid (show c.ok S1.now by rw [h1n]; exact hok)
  have HC2 := Lib.hid (show Dk.total (c.run S1.now) ≤ 4194304 by rw [h1n]; omega)
  have HC3 := Lib.hid (show (c.run S1.now).length = 16 by rw [Dk.run_len, h1n, h.ok.nowL])
  have HS1 := Lib.hid h1s
  clear h hA hop hl hch hchA hone hok ht h1n h1s h1l hE hfin
  unfold ptr
  go_enter Try.func91, Try.ntmps91
  go_wp2_with fail
  refine (op_any _ d S F HA.out).mono ?_
  rintro e w1 ⟨rfl, ho1, hD1⟩
  rw [HOP.out] at hD1 ⊢
  obtain ⟨lv, hc1, hlo1⟩ := hD1.cells
  have hx1 : w1.heap[w.heap.size]? = some (.cells #[x, y] 113) := (ho1.block _ (by simp) (fun hf => by have := HLT.out _ HMEM.out; omega)).trans (heap_alloc_new w _)
  have HO1 := Lib.hid ho1
  have HN := Lib.hid hD1.ok.nowL
  have HS := Lib.hid hD1.ok.sureL
  have HLT1 := Lib.hid hD1.lt
  have HCC := Lib.hid hc1
  have HLO1 := Lib.hid hlo1
  have HX1 := Lib.hid hx1
  have hdA : ∃ D, (w.alloc (.cells #[x, y] 113)).heap[d]? = some (.cells D 92) := by obtain ⟨lo, hc, -⟩ := HA.out.cells; exact ⟨_, hc⟩
  obtain ⟨DA, hDA⟩ := hdA
  have HCH1 := Lib.hid (HCHA.out.turn (w' := w1) hDA (fun k hk hne => ho1.block k hk hne))
  clear hDA
  have q0 := cells_at hx1 0 _ rfl
  have q1 := cells_at hx1 1 _ rfl
  simp only [List.getElem_toArray, List.getElem_cons_zero, List.getElem_cons_succ] at q0 q1
  obtain ⟨k, c1, c2, rfl, hent, hcall⟩ := does_now (w := w1.drew) hc1 HN.out (HCH1.out.kept (w' := w1.drew) (fun _ _ => rfl) (fun _ hk => hk)) HC1.out HC2.out
  have HCALL := Lib.hid hcall
  have HENT := Lib.hid hent
  clear ho1 hD1 hc1 hlo1 hx1 hcall
  go_wp2_with fail
  refine wp_region_still_tail 5 (by kernel_rfl) (by kernel_rfl) ?_
  simp only [List.take_succ_cons, List.take_zero, List.drop_succ_cons, List.drop_zero]
  change wpStill _ _ w1.drew (fun a' => wpList _ _ _ _ a' w1.drew) _ _
  repeat still_step
  refine wpStill_nil ?_
  go_wp2_with fail
  refine HCALL.out.mono ?_
  rintro e w2 ⟨rfl, ho2, hc2, hs2⟩
  have ho2' : Only (fun k => k = d) w1 w2 := ⟨ho2.os, ho2.tape, ho2.output, ho2.size, ho2.block⟩
  have hsz1 : w.heap.size < w1.heap.size := (Array.getElem?_eq_some_iff.1 HX1.out).1
  have hdw : d < w.heap.size := HLT.out d HMEM.out
  have hx2 : w2.heap[w.heap.size]? = some (.cells #[.func (.func k) #[] #[c1, c2], y] 113) := (ho2'.block _ hsz1 (by omega)).trans HX1.out
  have hlo2 := HLO1.out.turn HCC.out (w' := w2) (fun k hk hne => ho2'.block k hk hne)
  have hch2 := HCH1.out.turn HCC.out (w' := w2) (fun k hk hne => ho2'.block k hk hne)
  have hon2 : Only F w w2 := (Only.below (bel_alloc w _)).trans ((HO1.out.trans ho2').mono (fun i e => e ▸ HMEM.out))
  rw [HL1.out] at hlo2
  obtain ⟨vs, h1, h2, h3, h4⟩ := hlo2
  obtain ⟨la, lc, rfl⟩ := (Reads.own h1).shape
  have q0 := cells_at hx2 0 _ rfl
  have q1 := cells_at hx2 1 _ rfl
  simp only [List.getElem_toArray, List.getElem_cons_zero, List.getElem_cons_succ] at q0 q1
  have q33 := cells_at hc2 33 _ (diskC_at33 (S := { S1 with now := c.run S1.now }) HC3.out HS1.out _)
  have r33 := cells_free hc2 33
  have hdlt : d < w2.heap.size := (Array.getElem?_eq_some_iff.1 hc2).1
  have hsz2 : w.heap.size < w2.heap.size := (Array.getElem?_eq_some_iff.1 hx2).1
  have H1 := Lib.hid h1
  have H2 := Lib.hid h2
  have H3 := Lib.hid h3
  have H4 := Lib.hid h4
  have HCX := Lib.hid hc2
  have HX2 := Lib.hid hx2
  have HON2 := Lib.hid hon2
  have HCH2 := Lib.hid hch2
  have hfar : (Value.slice la S.loose.length lc).ownBlock ≠ some d := fun e => by
    rcases h1.2 with hh | ⟨g', cap', cur, hv, _, hcc, _⟩
    · rw [hh.1] at e; cases e
    · rw [hv] at e
      simp only [Value.ownBlock, Option.some.injEq] at e
      subst e
      exact far hcc hc2 (by decide) rfl
  have HFAR := Lib.hid hfar
  clear h1 h2 h3 h4 hc2 hx2 hon2 hch2 ho2 ho2' hfar hs2 hsz1 hdw
  go_wp2_with fail
  go_region_law (first
    | (refine step_append_lies _ (by rfl) _ _ _ rfl 0 113 i0 _ 2 16 Try.underlying90 hi0 hz0 hz1 hz2 rfl (by omega) _ S.loose.length _ (by rfl) (H1.out.alloc _).drew ⟨w2.heap.size, 0, none⟩ 1 1 [.func (.func k) #[] #[c1, c2], y] rfl rfl (World.news_of_block (cs := #[.func (.func k) #[] #[c1, c2], y]) (t := 113) (fr := (0, 0)) (heap_alloc_new w2 _)) HONE.out (by omega) (by unfold maxLen; omega) (by omega) (by simp) (w2.heap.size + 1) (by simp) ?_; intro gg cap w3 hown1 hgrow hat hltg; have q2 := (World.cell?_of_block (hgrow.block d (by simp; omega) (Ne.symm HFAR.out))).trans ((World.cell?_of_block (Below.heap_alloc w2 _ d hdlt)).trans q33); have qf := (World.frozen?_of_block (hgrow.block d (by simp; omega) (Ne.symm HFAR.out))).trans ((World.frozen?_of_block (Below.heap_alloc w2 _ d hdlt)).trans r33)))
  all_goals
    have HO := Lib.hid hown1
    have HG := Lib.hid hgrow
    have HAT := Lib.hid hat
    clear hown1 hgrow hat q2 qf
    go_wp2_with fail
    go_ret
    rw [HE.out]
    refine ⟨rfl, ?_⟩
    refine change_end HLT.out HON2.out HMEM.out HCX.out H1.out H2.out H3.out H4.out HCH2.out ((bel_alloc w2 (.cells #[.func (.func k) #[] #[c1, c2], y] 113)).drew) HG.out HO.out ?_ hltg HC3.out HS1.out HFIN.out _ rfl rfl rfl rfl
    rcases HAT.out with h | h
    · exact .inl h
    · exact .inr (by simpa using h)

theorem change_any (w : World) (d : Nat) (S : Dk.St) (F : Nat → Prop) (h : DiskAt w d S F) (c : Dk.Ch) (x y : Value) (hch : ChAt w F c x y) (hok : c.ok S.now) (ht : Dk.total (c.run S.now) ≤ S.room) (hm : S.loose.length ≤ 1000000000) :
    Calls Try.prog 91 #[ptr d 0, .agg #[x, y]] w fun e w' => e = .returned (.int .i64 (Dk.change S c).1) ∧ Turned w w' d (Dk.change S c).2 F := by
  by_cases hl : S.left = 0
  · exact change_off w d S F h c x y hl
  · exact change_on w d S F h c x y hch hok ht hm hl

end Go.Proofs.Ytllecjhfbojgcaa
