/-
  Add walked, for the part 0.
-/
import Derived.Test.YtllecjhfbojgcaaInAdd
import Derived.StillTailTactics
namespace Go.Proofs.Ytllecjhfbojgcaa
open Go.RowKit
set_option maxRecDepth 20000

set_option maxHeartbeats 8000000 in
set_option maxRecDepth 100000 in
theorem inadd_0 {w0 : Fr} {w : World} {n d l0 l1 : Nat} {lv : Value} {S : InSt} (h : InLive w0 w n d l0 l1 lv S) (k v : Int) (hk : Cl.In64 k) (hv : Cl.In64 v) (hn : S.rs.length < 500) (hs : (S.ent ⟨0, k, v⟩).text.size ≤ 140737488351232) (hm : S.D.loose.length ≤ 1000000000) (hbig : (Lg.bytesOf S.L0.rs).length ≤ 900000000) :
    Calls Try.prog 15 #[ptr n 0, InR.val' ⟨0, k, v⟩] w fun e w' => ∃ lv', e = .returned (.int .i64 (S.add ⟨0, k, v⟩).1) ∧ InLive w0 w' n d l0 l1 lv' (S.add ⟨0, k, v⟩).2 := by
  have ha : S.add ⟨0, k, v⟩ = if (S.put0 (S.ent ⟨0, k, v⟩)).1 ≠ 0 then S.put0 (S.ent ⟨0, k, v⟩) else ((S.put0 (S.ent ⟨0, k, v⟩)).2.row ⟨0, k, v⟩).sync0 := by
    unfold InSt.add
    rw [if_neg (by simp), if_neg (by omega)]
    rfl
  rw [ha]
  have hTr : (S.put0 (S.ent ⟨0, k, v⟩)).2.rs = S.rs := rfl
  obtain ⟨E, T, hET⟩ : ∃ E T, S.put0 (S.ent ⟨0, k, v⟩) = (E, T) := ⟨_, _, rfl⟩
  obtain ⟨F, G0, G1, N, h⟩ := h
  have hFG : ∀ k, (F k ∨ G0 k) → k < w.heap.size := fun k hk => hk.elim (h.disk.lt k) (h.log0.lt k)
  obtain ⟨W, hW⟩ : ∃ W, w.alloc (.cells #[.int .i64 0, .int .i64 k, .int .i64 v] 32) = W := ⟨_, rfl⟩
  have hb : Below w.heap.size w W := by rw [← hW]; exact bel_alloc _ _
  have hbox : W.heap[w.heap.size]? = some (.cells #[.int .i64 0, .int .i64 k, .int .i64 v] 32) := by rw [← hW]; exact heap_alloc_new w _
  have b0 := cells_at hbox 0 _ rfl
  have b1 := cells_at hbox 1 _ rfl
  have b2 := cells_at hbox 2 _ rfl
  have hLW := h.below hb
  have hc := hLW.cell
  have hr := hLW.row
  unfold ptr at hc
  have c0 := cells_at hc 0 _ rfl
  have c2 := cells_at hc 2 _ rfl
  simp only [List.getElem_toArray, List.getElem_cons_zero, List.getElem_cons_succ] at b0 b1 b2 c0 c2
  obtain ⟨la, lc, rfl⟩ := hr.reads.shape
  have hlen : S.rs.length ≤ 500 := by omega
  obtain ⟨m, hmm⟩ : ∃ m, S.rs.length = m := ⟨_, rfl⟩
  rw [hmm] at hn hlen
  rw [hmm] at c2
  have d2 := c2
  rw [← hW] at d2
  have hpl := fun (X : World) (hX : InAt w0 X n d l0 l1 (.slice la S.rs.length lc) S F G0 G1 N) => inat_put0 hX (S.ent ⟨0, k, v⟩) hs hm hbig
  have hent : S.ent ⟨0, k, v⟩ = ⟨1, ⟨(Cl.put [(m : Int), k, v]).toArray⟩⟩ := by unfold InSt.ent; rw [hmm]
  rw [hET] at hTr hpl ⊢
  obtain ⟨R, hR⟩ : ∃ R, (if (E, T).1 ≠ 0 then (E, T) else ((E, T).2.row ⟨0, k, v⟩).sync0) = R := ⟨_, rfl⟩
  rw [hR]
  have hRE : E ≠ 0 → R = (E, T) := fun he => by rw [← hR, if_pos he]
  have hR0 : E = 0 → R = (T.row ⟨0, k, v⟩).sync0 := fun he => by rw [← hR, if_neg (by simpa using he)]
  have HRE := Lib.hid hRE
  have HR0 := Lib.hid hR0
  clear hR hRE hR0
  rw [hent] at hpl
  have hk1 : (((1 : UInt8).toNat : Nat) : Int) = 1 := by decide
  simp only [hk1] at hpl
  unfold ptr at hpl
  have hput := fun (X : World) (hX : X.heap[W.heap.size]? = some (.cells #[.int .i64 (m : Int), .int .i64 k, .int .i64 v] 2)) => putR_any (.slice (some ⟨W.heap.size, 0, none⟩) 3 3) [(m : Int), k, v] X (.inr ⟨W.heap.size, 0, 3, rfl, Nat.le_refl _, by unfold maxLen; simp, (Array.getElem?_eq_some_iff.1 hX).1, fun i c hi => by rw [Nat.zero_add]; exact cells_at hX i c (by simpa [ints] using hi)⟩) (by simp) (by intro n hn; simp only [List.mem_cons, List.not_mem_nil, or_false] at hn; rcases hn with rfl | rfl | rfl; unfold Cl.In64; omega; assumption; assumption)
  have HPUT := Lib.hid hput
  have HPL := Lib.hid hpl
  have HTR := Lib.hid hTr
  have HW := Lib.hid hW
  have HL := Lib.hid hLW
  have HBOX := Lib.hid hbox
  have HFG := Lib.hid hFG
  have HMM := Lib.hid hmm
  obtain ⟨i0, hi0, hz0, hz1, hz2⟩ := info_parts infoIn
  have hltb : w.heap.size < W.heap.size := (Array.getElem?_eq_some_iff.1 hbox).1
  clear h hW hb hLW hc hr hbox hm hbig hs ha hk hv hpl hput hET hent hTr hFG hmm hk1
  unfold ptr InR.val'
  show Calls _ _ #[_, .agg #[.int .i64 0, .int .i64 k, .int .i64 v]] _ _
  go_enter Try.func15, Try.ntmps15
  go_wp2_with fail
  rw [HW.out]
  clear d2
  go_wp2_with fail
  refine wp_region_still_tail 7 (by kernel_rfl) (by kernel_rfl) ?_
  simp only [List.take_succ_cons, List.take_zero, List.drop_succ_cons, List.drop_zero]
  change wpStill _ _ W.drew (fun a' => wpList _ _ _ _ a' W.drew) _ _
  repeat still_step
  refine wpStill_nil ?_
  go_wp2_with fail
  go_region_law (first
    | (go_simp; go_at_call 49; refine (HPUT.out _ (by exact heap_alloc_new W _)).mono ?_; rintro e w1 ⟨rfl, hb1⟩; have hL1 := ((HL.out.below (bel_alloc W _)).drew.drew.below hb1))
    | (go_simp; go_at_call 48; refine (HPL.out _ (by first | exact hL1 | exact hL1.drew | exact hL1.drew.drew)).mono ?_; rintro e w2 ⟨rfl, hL2, ho2⟩))
  all_goals
    have hbw1 : w1.heap[w.heap.size]? = some (.cells #[.int .i64 0, .int .i64 k, .int .i64 v] 32) := (hb1.block _ (by show _ < (W.alloc _).heap.size; simp; omega)).trans ((Below.heap_alloc W _ _ hltb).trans HBOX.out)
    have hbw2 := (ho2.block _ (Array.getElem?_eq_some_iff.1 hbw1).1 (fun hk => Nat.lt_irrefl _ (HFG.out _ hk))).trans hbw1
    clear b0 b1 b2 c0 c2 hL1 hb1 ho2 hbw1
    by_cases he : E = 0
    · subst he
      obtain ⟨hc2, hr2, hne2⟩ := hL2.cells
      have ht := HTR.out
      have hr2' := hr2
      rw [ht, HMM.out] at hr2'
      rw [HMM.out] at hne2 hL2
      have hTm : T.rs.length = m := by rw [ht]; exact HMM.out
      unfold ptr at hc2
      have b0 := cells_at hbw2 0 _ rfl
      have b1 := cells_at hbw2 1 _ rfl
      have b2 := cells_at hbw2 2 _ rfl
      have c2 := cells_at hc2 2 _ rfl
      have f2 := cells_free hc2 2
      simp only [List.getElem_toArray, List.getElem_cons_zero, List.getElem_cons_succ] at b0 b1 b2 c2
      rw [HMM.out] at c2
      have hltn : n < w2.heap.size := (Array.getElem?_eq_some_iff.1 hc2).1
      have HL2 := Lib.hid hL2
      have HR2 := Lib.hid hr2'
      have HNE2 := Lib.hid hne2
      have HONE := Lib.hid (show ∀ u ∈ [Value.int .i64 0, .int .i64 k, .int .i64 v], u.oneCell' = true by simp [Value.oneCell'])
      have HT := Lib.hid ht
      have HTM := Lib.hid hTm
      clear hL2 hr2 hr2' hne2 hc2 ht hTm
      go_wp2_with fail
      go_region_law (first
        | (refine step_append_row rfl _ _ 39 rfl 32 i0 _ 3 24 Try.underlying39 hi0 hz0 hz1 hz2 rfl (by omega) (.slice la m lc) m (inCells S.rs) (by rfl) (by exact HR2.out.kept (fun g hg => (Below.heap_alloc w2 _ g (by obtain ⟨cur, hcur⟩ := HR2.out.type g hg; exact (Array.getElem?_eq_some_iff.1 hcur).1)))) ⟨w2.heap.size, 0, none⟩ 1 1 [.int .i64 0, .int .i64 k, .int .i64 v] rfl rfl (World.news_of_block (cs := #[.int .i64 0, .int .i64 k, .int .i64 v]) (t := 32) (fr := (0, 0)) (by exact heap_alloc_new w2 _)) HONE.out (by omega) (by unfold maxLen; omega) (by omega) ?_; intro gg cap w3 hown1 hgrow hat hltg; have q2 := (World.cell?_of_block (hgrow.block n (by simp; omega) (Ne.symm HNE2.out))).trans ((World.cell?_of_block (Below.heap_alloc w2 _ n hltn)).trans c2); have qf := (World.frozen?_of_block (hgrow.block n (by simp; omega) (Ne.symm HNE2.out))).trans ((World.frozen?_of_block (Below.heap_alloc w2 _ n hltn)).trans f2)))
      all_goals
        have hlr : InLive w0 (w3.setCell ⟨n, 2, none⟩ (.slice (some ⟨gg, 0, none⟩) (m + 1) cap)) n d l0 l1 (.slice (some ⟨gg, 0, none⟩) (m + 1) cap) (T.row ⟨0, k, v⟩) := by
          have h1 := in_row (g := gg) (cap := cap) (x := ⟨0, k, v⟩) HL2.out (bel_alloc w2 (.cells #[.int .i64 0, .int .i64 k, .int .i64 v] 32)) (by exact ⟨hgrow.os, hgrow.tape, hgrow.output, hgrow.size, hgrow.block⟩) (by rw [HTM.out, HT.out]; exact hown1) (by rcases hat with h | h; exact .inl h; exact .inr h) hltg
          rw [HTM.out] at h1
          exact h1
        have HLR := Lib.hid hlr
        clear hown1 hgrow hat q2 qf hlr
        go_wp2_with fail
        refine (in_sync0 (by first | exact HLR.out | exact HLR.out.drew)).mono ?_
        rintro e w4 ⟨rfl, hL4⟩
        go_wp2_with fail
        go_ret
        have hr := HR0.out (by first | rfl | trivial)
        exact ⟨_, by rw [hr]; rfl, by rw [hr]; exact hL4⟩
    · have hz : (E != 0) = true := by simpa using he
      go_wp2_with fail
      go_ret
      have hr := HRE.out he
      exact ⟨_, by rw [hr]; rfl, by rw [hr]; exact hL2⟩

end Go.Proofs.Ytllecjhfbojgcaa

/-
  Add walked, for the part 1.
-/
namespace Go.Proofs.Ytllecjhfbojgcaa
open Go.RowKit
set_option maxRecDepth 20000

set_option maxHeartbeats 8000000 in
set_option maxRecDepth 100000 in
theorem inadd_1 {w0 : Fr} {w : World} {n d l0 l1 : Nat} {lv : Value} {S : InSt} (h : InLive w0 w n d l0 l1 lv S) (k v : Int) (hk : Cl.In64 k) (hv : Cl.In64 v) (hn : S.rs.length < 500) (hs : (S.ent ⟨1, k, v⟩).text.size ≤ 140737488351232) (hm : S.D.loose.length ≤ 1000000000) (hbig : (Lg.bytesOf S.L1.rs).length ≤ 900000000) :
    Calls Try.prog 15 #[ptr n 0, InR.val' ⟨1, k, v⟩] w fun e w' => ∃ lv', e = .returned (.int .i64 (S.add ⟨1, k, v⟩).1) ∧ InLive w0 w' n d l0 l1 lv' (S.add ⟨1, k, v⟩).2 := by
  have ha : S.add ⟨1, k, v⟩ = if (S.put1 (S.ent ⟨1, k, v⟩)).1 ≠ 0 then S.put1 (S.ent ⟨1, k, v⟩) else ((S.put1 (S.ent ⟨1, k, v⟩)).2.row ⟨1, k, v⟩).sync1 := by
    unfold InSt.add
    rw [if_neg (by simp), if_neg (by omega)]
    rfl
  rw [ha]
  have hTr : (S.put1 (S.ent ⟨1, k, v⟩)).2.rs = S.rs := rfl
  obtain ⟨E, T, hET⟩ : ∃ E T, S.put1 (S.ent ⟨1, k, v⟩) = (E, T) := ⟨_, _, rfl⟩
  obtain ⟨F, G0, G1, N, h⟩ := h
  have hFG : ∀ k, (F k ∨ G1 k) → k < w.heap.size := fun k hk => hk.elim (h.disk.lt k) (h.log1.lt k)
  obtain ⟨W, hW⟩ : ∃ W, w.alloc (.cells #[.int .i64 1, .int .i64 k, .int .i64 v] 32) = W := ⟨_, rfl⟩
  have hb : Below w.heap.size w W := by rw [← hW]; exact bel_alloc _ _
  have hbox : W.heap[w.heap.size]? = some (.cells #[.int .i64 1, .int .i64 k, .int .i64 v] 32) := by rw [← hW]; exact heap_alloc_new w _
  have b0 := cells_at hbox 0 _ rfl
  have b1 := cells_at hbox 1 _ rfl
  have b2 := cells_at hbox 2 _ rfl
  have hLW := h.below hb
  have hc := hLW.cell
  have hr := hLW.row
  unfold ptr at hc
  have c1 := cells_at hc 1 _ rfl
  have c2 := cells_at hc 2 _ rfl
  simp only [List.getElem_toArray, List.getElem_cons_zero, List.getElem_cons_succ] at b0 b1 b2 c1 c2
  obtain ⟨la, lc, rfl⟩ := hr.reads.shape
  have hlen : S.rs.length ≤ 500 := by omega
  obtain ⟨m, hmm⟩ : ∃ m, S.rs.length = m := ⟨_, rfl⟩
  rw [hmm] at hn hlen
  rw [hmm] at c2
  have d2 := c2
  rw [← hW] at d2
  have hpl := fun (X : World) (hX : InAt w0 X n d l0 l1 (.slice la S.rs.length lc) S F G0 G1 N) => inat_put1 hX (S.ent ⟨1, k, v⟩) hs hm hbig
  have hent : S.ent ⟨1, k, v⟩ = ⟨1, ⟨(Cl.put [(m : Int), k, v]).toArray⟩⟩ := by unfold InSt.ent; rw [hmm]
  rw [hET] at hTr hpl ⊢
  obtain ⟨R, hR⟩ : ∃ R, (if (E, T).1 ≠ 0 then (E, T) else ((E, T).2.row ⟨1, k, v⟩).sync1) = R := ⟨_, rfl⟩
  rw [hR]
  have hRE : E ≠ 0 → R = (E, T) := fun he => by rw [← hR, if_pos he]
  have hR0 : E = 0 → R = (T.row ⟨1, k, v⟩).sync1 := fun he => by rw [← hR, if_neg (by simpa using he)]
  have HRE := Lib.hid hRE
  have HR0 := Lib.hid hR0
  clear hR hRE hR0
  rw [hent] at hpl
  have hk1 : (((1 : UInt8).toNat : Nat) : Int) = 1 := by decide
  simp only [hk1] at hpl
  unfold ptr at hpl
  have hput := fun (X : World) (hX : X.heap[W.heap.size]? = some (.cells #[.int .i64 (m : Int), .int .i64 k, .int .i64 v] 2)) => putR_any (.slice (some ⟨W.heap.size, 0, none⟩) 3 3) [(m : Int), k, v] X (.inr ⟨W.heap.size, 0, 3, rfl, Nat.le_refl _, by unfold maxLen; simp, (Array.getElem?_eq_some_iff.1 hX).1, fun i c hi => by rw [Nat.zero_add]; exact cells_at hX i c (by simpa [ints] using hi)⟩) (by simp) (by intro n hn; simp only [List.mem_cons, List.not_mem_nil, or_false] at hn; rcases hn with rfl | rfl | rfl; unfold Cl.In64; omega; assumption; assumption)
  have HPUT := Lib.hid hput
  have HPL := Lib.hid hpl
  have HTR := Lib.hid hTr
  have HW := Lib.hid hW
  have HL := Lib.hid hLW
  have HBOX := Lib.hid hbox
  have HFG := Lib.hid hFG
  have HMM := Lib.hid hmm
  obtain ⟨i0, hi0, hz0, hz1, hz2⟩ := info_parts infoIn
  have hltb : w.heap.size < W.heap.size := (Array.getElem?_eq_some_iff.1 hbox).1
  clear h hW hb hLW hc hr hbox hm hbig hs ha hk hv hpl hput hET hent hTr hFG hmm hk1
  unfold ptr InR.val'
  show Calls _ _ #[_, .agg #[.int .i64 1, .int .i64 k, .int .i64 v]] _ _
  go_enter Try.func15, Try.ntmps15
  go_wp2_with fail
  rw [HW.out]
  clear d2
  go_wp2_with fail
  refine wp_region_still_tail 7 (by kernel_rfl) (by kernel_rfl) ?_
  simp only [List.take_succ_cons, List.take_zero, List.drop_succ_cons, List.drop_zero]
  change wpStill _ _ W.drew (fun a' => wpList _ _ _ _ a' W.drew) _ _
  repeat still_step
  refine wpStill_nil ?_
  go_wp2_with fail
  go_region_law (first
    | (go_simp; go_at_call 49; refine (HPUT.out _ (by exact heap_alloc_new W _)).mono ?_; rintro e w1 ⟨rfl, hb1⟩; have hL1 := ((HL.out.below (bel_alloc W _)).drew.drew.below hb1))
    | (go_simp; go_at_call 48; refine (HPL.out _ (by first | exact hL1 | exact hL1.drew | exact hL1.drew.drew)).mono ?_; rintro e w2 ⟨rfl, hL2, ho2⟩))
  all_goals
    have hbw1 : w1.heap[w.heap.size]? = some (.cells #[.int .i64 1, .int .i64 k, .int .i64 v] 32) := (hb1.block _ (by show _ < (W.alloc _).heap.size; simp; omega)).trans ((Below.heap_alloc W _ _ hltb).trans HBOX.out)
    have hbw2 := (ho2.block _ (Array.getElem?_eq_some_iff.1 hbw1).1 (fun hk => Nat.lt_irrefl _ (HFG.out _ hk))).trans hbw1
    clear b0 b1 b2 c1 c2 hL1 hb1 ho2 hbw1
    by_cases he : E = 0
    · subst he
      obtain ⟨hc2, hr2, hne2⟩ := hL2.cells
      have ht := HTR.out
      have hr2' := hr2
      rw [ht, HMM.out] at hr2'
      rw [HMM.out] at hne2 hL2
      have hTm : T.rs.length = m := by rw [ht]; exact HMM.out
      unfold ptr at hc2
      have b0 := cells_at hbw2 0 _ rfl
      have b1 := cells_at hbw2 1 _ rfl
      have b2 := cells_at hbw2 2 _ rfl
      have c2 := cells_at hc2 2 _ rfl
      have f2 := cells_free hc2 2
      simp only [List.getElem_toArray, List.getElem_cons_zero, List.getElem_cons_succ] at b0 b1 b2 c2
      rw [HMM.out] at c2
      have hltn : n < w2.heap.size := (Array.getElem?_eq_some_iff.1 hc2).1
      have HL2 := Lib.hid hL2
      have HR2 := Lib.hid hr2'
      have HNE2 := Lib.hid hne2
      have HONE := Lib.hid (show ∀ u ∈ [Value.int .i64 1, .int .i64 k, .int .i64 v], u.oneCell' = true by simp [Value.oneCell'])
      have HT := Lib.hid ht
      have HTM := Lib.hid hTm
      clear hL2 hr2 hr2' hne2 hc2 ht hTm
      go_wp2_with fail
      go_region_law (first
        | (refine step_append_row rfl _ _ 39 rfl 32 i0 _ 3 24 Try.underlying39 hi0 hz0 hz1 hz2 rfl (by omega) (.slice la m lc) m (inCells S.rs) (by rfl) (by exact HR2.out.kept (fun g hg => (Below.heap_alloc w2 _ g (by obtain ⟨cur, hcur⟩ := HR2.out.type g hg; exact (Array.getElem?_eq_some_iff.1 hcur).1)))) ⟨w2.heap.size, 0, none⟩ 1 1 [.int .i64 1, .int .i64 k, .int .i64 v] rfl rfl (World.news_of_block (cs := #[.int .i64 1, .int .i64 k, .int .i64 v]) (t := 32) (fr := (0, 0)) (by exact heap_alloc_new w2 _)) HONE.out (by omega) (by unfold maxLen; omega) (by omega) ?_; intro gg cap w3 hown1 hgrow hat hltg; have q2 := (World.cell?_of_block (hgrow.block n (by simp; omega) (Ne.symm HNE2.out))).trans ((World.cell?_of_block (Below.heap_alloc w2 _ n hltn)).trans c2); have qf := (World.frozen?_of_block (hgrow.block n (by simp; omega) (Ne.symm HNE2.out))).trans ((World.frozen?_of_block (Below.heap_alloc w2 _ n hltn)).trans f2)))
      all_goals
        have hlr : InLive w0 (w3.setCell ⟨n, 2, none⟩ (.slice (some ⟨gg, 0, none⟩) (m + 1) cap)) n d l0 l1 (.slice (some ⟨gg, 0, none⟩) (m + 1) cap) (T.row ⟨1, k, v⟩) := by
          have h1 := in_row (g := gg) (cap := cap) (x := ⟨1, k, v⟩) HL2.out (bel_alloc w2 (.cells #[.int .i64 1, .int .i64 k, .int .i64 v] 32)) (by exact ⟨hgrow.os, hgrow.tape, hgrow.output, hgrow.size, hgrow.block⟩) (by rw [HTM.out, HT.out]; exact hown1) (by rcases hat with h | h; exact .inl h; exact .inr h) hltg
          rw [HTM.out] at h1
          exact h1
        have HLR := Lib.hid hlr
        clear hown1 hgrow hat q2 qf hlr
        go_wp2_with fail
        refine (in_sync1 (by first | exact HLR.out | exact HLR.out.drew)).mono ?_
        rintro e w4 ⟨rfl, hL4⟩
        go_wp2_with fail
        go_ret
        have hr := HR0.out (by first | rfl | trivial)
        exact ⟨_, by rw [hr]; rfl, by rw [hr]; exact hL4⟩
    · have hz : (E != 0) = true := by simpa using he
      go_wp2_with fail
      go_ret
      have hr := HRE.out he
      exact ⟨_, by rw [hr]; rfl, by rw [hr]; exact hL2⟩

end Go.Proofs.Ytllecjhfbojgcaa
