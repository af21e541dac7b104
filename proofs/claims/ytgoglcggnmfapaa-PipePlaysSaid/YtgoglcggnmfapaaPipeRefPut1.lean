/-
  The reference's Put walked: a message that is taken.
-/
import Derived.Test.YtgoglcggnmfapaaPipeRefPut
import Derived.Test.YtgoglcggnmfapaaFreeRegion
import Derived.Deep.RegionLaw
import Derived.Deep.AppendLies
import Derived.BigRegion
namespace Go.Proofs.Ytgoglcggnmfapaa
open Go.RowKit Go.Conc

theorem infoMsg : (Try.prog.info? 33).map (fun i => (i.zero, i.size, i.bytes)) = some (some (.agg #[.int .i64 0, .int .i64 0, .slice none 0 0]), 3, 40) := by kernel_rfl
theorem own_lit2 (w : World) (c : Array Value) (T : TypeId) (m n size base : Nat) (hm : m = w.heap.size) (hc : c.size = n * size) (hn : n ≤ maxLen) (hb : base ≤ w.heap.size) : (w.alloc (.cells c T)).ownsRow base T size (.slice (some ⟨m, 0, none⟩) n n) n c.toList := by
  subst hm
  exact ⟨by simp [hc], .inr ⟨w.heap.size, n, c, rfl, hb, heap_alloc_new w _, Nat.le_refl _, hn, by omega, List.take_of_length_le (by simp [hc])⟩⟩
theorem own_kept {w w' : World} {base : Nat} {e : TypeId} {size : Nat} {v : Value} {n : Nat} {xs : List Value} (h : w.ownsRow base e size v n xs) (hk : ∀ g, v.ownBlock = some g → w'.heap[g]? = w.heap[g]?) : w'.ownsRow base e size v n xs := by
  refine ⟨h.1, ?_⟩
  rcases h.2 with h | ⟨g, cap, cur, h1, h2, h3, h4⟩
  · exact .inl h
  · exact .inr ⟨g, cap, cur, h1, h2, (hk g (by rw [h1]; rfl)).trans h3, h4⟩
theorem own_far {w w' : World} {base size n : Nat} {e : TypeId} {v : Value} {xs : List Value} (h : w.ownsRow base e size v n xs) (hb : Below w.heap.size w w') : w'.ownsRow base e size v n xs :=
  own_kept h (fun g hg => by
    rcases h.2 with ⟨h, -⟩ | ⟨g', cap', cur, hv, h2, h3, _⟩
    · rw [h] at hg; cases hg
    · rw [hv] at hg
      simp only [Value.ownBlock, Option.some.injEq] at hg
      exact hb.block g (by rw [← hg]; exact (Array.getElem?_eq_some_iff.1 h3).1))
theorem grown_bel {W W0 w3 : World} {v : Value} {size n : Nat} {e : TypeId} {xs : List Value} (h0 : Below W.heap.size W W0) (ho : W0.ownsRow W.heap.size e size v n xs) (hg : W0.grownBy w3 v.ownBlock) : Below W.heap.size W w3 :=
  h0.grown hg h0.size (fun k hk => by
    rcases ho.2 with ⟨h, -⟩ | ⟨g', cap', cur, hv, h2, h3, _⟩
    · rw [h] at hk; cases hk
    · rw [hv] at hk
      simp only [Value.ownBlock, Option.some.injEq] at hk
      omega)
theorem msg_one (ms : List MsgV) (h : ∀ x ∈ ms, ∃ a k c, x.lv = .slice a k c) : ∀ u ∈ msgCells ms, u.oneCell' = true := by
  induction ms with
  | nil => intro u hu; cases hu
  | cons m ms ih =>
    intro u hu
    rw [msgCells_cons, List.mem_append] at hu
    rcases hu with hu | hu
    · obtain ⟨a, k, c, hlv⟩ := h m (by simp)
      rw [hlv] at hu
      simp only [List.mem_cons, List.not_mem_nil, or_false] at hu
      rcases hu with rfl | rfl | rfl <;> simp [Value.oneCell']
    · exact ih (fun x hx => h x (by simp [hx])) u hu
/-- Its block is a new one. -/
def Fresh (w : World) (v : Value) : Prop := ∀ g, v.ownBlock = some g → w.heap.size ≤ g
theorem put_fin {w W w3 : World} {rb n N g k cap : Nat} {Lv lv : Value} {ms : List MsgV} {x y : Int} (hw : Below w.heap.size w W) (h3 : Below W.heap.size W w3) (hbox : W.heap[rb]? = some (.cells #[Lv, .int .i64 (n : Int)] 43)) (hrb : rb < N) (hN : N ≤ w.heap.size)
    (hk : k = ms.length) (ho : w3.ownsRow W.heap.size 33 3 (.slice (some ⟨g, 0, none⟩) (k + 1) cap) (k + 1) (msgCells ms ++ [.int .i64 x, .int .i64 y, lv])) :
    Only (fun k => k = rb) w (w3.setCell ⟨rb, 0, none⟩ (.slice (some ⟨g, 0, none⟩) (k + 1) cap)) ∧ RefAt (w3.setCell ⟨rb, 0, none⟩ (.slice (some ⟨g, 0, none⟩) (k + 1) cap)) rb n N (.slice (some ⟨g, 0, none⟩) (k + 1) cap) (ms ++ [⟨x, y, lv⟩]) ∧ Fresh w (.slice (some ⟨g, 0, none⟩) (k + 1) cap) := by
  subst hk
  have hlt := (Array.getElem?_eq_some_iff.1 hbox).1
  have hg : W.heap.size ≤ g := by
    rcases ho.2 with ⟨h, -⟩ | ⟨g', cap', cur, hv, h2, h3, _⟩
    · cases h
    · simp only [Value.slice.injEq, Option.some.injEq, Addr.mk.injEq] at hv; omega
  have hs := hw.size
  have hb3 := (h3.block rb hlt).trans hbox
  refine ⟨(Only.below (bel_trans hw h3)).trans (Only.setCell _ _ ⟨rb, 0, none⟩ _ rfl), ⟨?_, ?_, fun g' hg' => ?_, hrb⟩, fun g' hg' => ?_⟩
  · have := cells_set hb3 0 (.slice (some ⟨g, 0, none⟩) (ms.length + 1) cap)
    simpa using this
  · have := Reads.own (own_kept ho (w' := w3.setCell ⟨rb, 0, none⟩ (.slice (some ⟨g, 0, none⟩) (ms.length + 1) cap)) (fun g' hg' => by
      simp only [Value.ownBlock, Option.some.injEq] at hg'
      subst hg'
      exact Below.heap_setCell _ _ _ _ (by show g ≠ rb; omega)))
    rw [List.length_append, List.length_singleton, ← msgCells_snoc]
    exact this
  · simp only [Value.ownBlock, Option.some.injEq] at hg'
    omega
  · simp only [Value.ownBlock, Option.some.injEq] at hg'
    omega

set_option maxHeartbeats 4000000 in
set_option maxRecDepth 100000 in
theorem refput_ok (w : World) (rb n N : Nat) (Lv : Value) (ms : List MsgV) (h : RefAt w rb n N Lv ms) (m : MsgP) (lv : Value) (hr : Reads w lv m.l.length (recCells m.l)) (hm : mayB m = true) (hf : ms.length < n) (hn8 : n ≤ 8) (hN : N ≤ w.heap.size) (hsl : ∀ x ∈ ms, ∃ a k c, x.lv = .slice a k c) :
    Calls Try.prog 12 #[.pointer (some ⟨rb, 0, none⟩), .agg #[.int .i64 m.seq, .int .i64 m.bar, lv]] w fun e w' => ∃ Lv', e = .returned (.int .i64 0) ∧ Only (fun k => k = rb) w w' ∧ RefAt w' rb n N Lv' (ms ++ [⟨m.seq, m.bar, lv⟩]) ∧ Fresh w Lv' := by
  obtain ⟨i0, hi0, hz0, hz1, hz2⟩ := info_parts infoMsg
  have HR := Lib.hid (hr.below (bel_alloc w (.cells #[.int .i64 m.seq, .int .i64 m.bar, lv] 33)))
  obtain ⟨a, c, rfl⟩ := hr.shape
  obtain ⟨la, lc, rfl⟩ := h.row.shape
  have H := Lib.hid h
  have HM := Lib.hid hm
  have HSL := Lib.hid hsl
  clear hr hm h hsl
  go_enter Try.func12, Try.ntmps12
  go_wp2_with fail
  refine (refmay_any m _ _ HR.out).mono ?_
  rintro e w1 ⟨rfl, hb1⟩
  rw [HM.out]
  have hbx := (hb1.block w.heap.size (by simp)).trans (heap_alloc_new w _)
  have m0 := cells_at hbx 0 _ rfl
  have m1 := cells_at hbx 1 _ rfl
  have m2 := cells_at hbx 2 _ rfl
  have hx1 : w.heap.size < w1.heap.size := (Array.getElem?_eq_some_iff.1 hbx).1
  have hra := H.out.below (bel_trans (bel_alloc _ _) hb1)
  have b0 := cells_at hra.box 0 _ rfl
  have b1 := cells_at hra.box 1 _ rfl
  have hlt : rb < w1.heap.size := (Array.getElem?_eq_some_iff.1 hra.box).1
  simp only [List.getElem_toArray, List.getElem_cons_succ, List.getElem_cons_zero] at b0 b1 m0 m1 m2
  have HB := Lib.hid (bel_trans (bel_alloc w _) hb1)
  have HRA := Lib.hid hra
  obtain ⟨k, hk⟩ : ∃ k, ms.length = k := ⟨_, rfl⟩
  have HK := Lib.hid hk
  rw [hk] at b0 hf
  have hd : decide ((n : Int) ≤ (k : Int)) = false := by simp; omega
  clear hra hb1 hbx hk
  go_wp2_with fail
  go_quiet (fail)
  go_wp2_with fail
  generalize hW : w1.drewN _ = W
  have b0 : W.cell? ⟨rb, 0, none⟩ = some (.slice la k lc) := by rw [← hW]; exact b0
  have m0 : W.cell? ⟨w.heap.size, 0, none⟩ = some (.int .i64 m.seq) := by rw [← hW]; exact m0
  have m1 : W.cell? ⟨w.heap.size, 1, none⟩ = some (.int .i64 m.bar) := by rw [← hW]; exact m1
  have m2 : W.cell? ⟨w.heap.size, 2, none⟩ = some (.slice a m.l.length c) := by rw [← hW]; exact m2
  have hx1 : w.heap.size < W.heap.size := by rw [← hW]; exact hx1
  have hlt : rb < W.heap.size := by rw [← hW]; exact hlt
  have HBW := Lib.hid (show Below w.heap.size w W by rw [← hW]; exact bel_trans HB.out ⟨rfl, rfl, rfl, Nat.le_refl _, fun _ _ => rfl⟩)
  have HBOX := Lib.hid (show W.heap[rb]? = some (.cells #[.slice la k lc, .int .i64 (n : Int)] 43) by rw [← hW, ← HK.out]; exact HRA.out.box)
  have HROW := Lib.hid (show Reads W (.slice la k lc) k (msgCells ms) by
    have h1 := HRA.out.row
    rw [HK.out] at h1
    exact h1.below (by rw [← hW]; exact ⟨rfl, rfl, rfl, Nat.le_refl _, fun _ _ => rfl⟩))
  clear hW hd b1
  have HRN := Lib.hid (show rb < N from H.out.rN)
  refine wp_region_free [0, 2, 3, 4, 5, 7] 10 (fun W' => Below W.heap.size W W') (by kernel_rfl) (by kernel_rfl) ?_
  change wpYields _ _ _ _ [_, _, _, _, _, _] _
  iterate 6 (refine yields_step (fun K hK => ?_); apply Exists.intro; apply And.intro; (apply yields_at rfl; rintro W' hb; have c0 := (hb.cell (p := ⟨rb, 0, none⟩) hlt).trans b0; have c1 := (hb.cell (p := ⟨w.heap.size, 0, none⟩) hx1).trans m0; have c2 := (hb.cell (p := ⟨w.heap.size, 1, none⟩) hx1).trans m1; have c3 := (hb.cell (p := ⟨w.heap.size, 2, none⟩) hx1).trans m2; go_simp; first | done | rfl); go_simp; refine hK _ ?_; clear hK K)
  refine yields_nil ?_
  obtain ⟨V, hV⟩ : ∃ V, W.drew = V := ⟨_, rfl⟩
  have hbV : Below W.heap.size W V := by rw [← hV]; exact bel_drew W
  rw [hV]
  refine anyP_two (k := 1) (k' := 8) (by kernel_rfl) (by decide) (by decide) rfl rfl rfl rfl hbV ?_ ?_
  · refine wpP_step rfl (fun K hK => ?_)
    go_simp
    refine hK _ _ ?_
    clear hK K
    have hown0 := own_lit2 V #[] 33 V.heap.size 0 3 W.heap.size rfl rfl (by decide) hbV.size
    have hbV1 := bel_trans hbV (bel_alloc V (.cells #[] 33))
    have hs0 : V.heap.size < (V.alloc (.cells #[] 33)).heap.size := by simp
    obtain ⟨V1, hV1⟩ : ∃ Y, V.alloc (.cells #[] 33) = Y := ⟨_, rfl⟩
    rw [hV1] at hown0 hbV1 hs0 ⊢
    refine anyP_two (k := 6) (k' := 8) (by kernel_rfl) (by decide) (by decide) rfl rfl rfl rfl hbV1 ?_ ?_
    · refine wp_append_reads V1 (.tmp 19) (.tmp 23) 41 rfl W.heap.size 33 i0 _ 3 40 Try.underlying41 hi0 hz0 hz1 hz2 rfl (by omega) V.heap.size 0 0 [] (by rfl) hown0 (.slice la k lc) k (msgCells ms) (by rfl) (HROW.out.below hbV1) (by rw [msgCells_len, HK.out]) (msg_one ms HSL.out) (by unfold maxLen; omega) (by omega) hbV1.size ?_
      intro g6 c6 V6 hown6 hgr6 hat6
      rw [Nat.zero_add, List.nil_append] at hown6
      have hbV6 := grown_bel hbV1 hown0 hgr6
      refine anyP_one (k := 8) (by kernel_rfl) (by decide) rfl rfl hbV6 ?_
      refine wpP_step rfl (fun K hK => ?_)
      go_simp
      refine hK _ _ ?_
      clear hK K
      have hnew := own_lit2 V6 #[.int .i64 m.seq, .int .i64 m.bar, .slice a m.l.length c] 33 V6.heap.size 1 3 0 rfl rfl (by decide) (Nat.zero_le _)
      have hAV8 := bel_alloc V6 (.cells #[.int .i64 m.seq, .int .i64 m.bar, .slice a m.l.length c] 33)
      have hbV8 := bel_trans hbV6 hAV8
      have hs8 : V6.heap.size < (V6.alloc (.cells #[.int .i64 m.seq, .int .i64 m.bar, .slice a m.l.length c] 33)).heap.size := by simp
      obtain ⟨V8, hV8⟩ : ∃ Y, V6.alloc (.cells #[.int .i64 m.seq, .int .i64 m.bar, .slice a m.l.length c] 33) = Y := ⟨_, rfl⟩
      rw [hV8] at hnew hAV8 hbV8 hs8 ⊢
      have hown6 := own_far hown6 hAV8
      refine anyP_one (k := 9) (by kernel_rfl) (by decide) rfl rfl hbV8 ?_
      refine wp_append_reads V8 (.tmp 24) (.tmp 26) 41 rfl W.heap.size 33 i0 _ 3 40 Try.underlying41 hi0 hz0 hz1 hz2 rfl (by omega) g6 k c6 (msgCells ms) (by simp [Act.eval]) hown6 (.slice (some ⟨V6.heap.size, 0, none⟩) 1 1) 1 [.int .i64 m.seq, .int .i64 m.bar, .slice a m.l.length c] (by simp [Act.eval]) (Reads.own hnew) rfl (by simp [Value.oneCell']) (by unfold maxLen; omega) (by omega) hbV8.size ?_
      intro g9 c9 V9 hown9 hgr9 hat9
      have hb9 := grown_bel hbV8 hown6 hgr9
      have q2 := (hb9.cell (p := ⟨rb, 0, none⟩) hlt).trans b0
      have qf := cells_free ((hb9.block rb hlt).trans HBOX.out) 0
      refine anyP_leaf hb9 (by kernel_rfl) ?_
      simp only [List.drop_succ_cons, List.drop_zero]
      have hfin := put_fin HBW.out hb9 HBOX.out HRN.out hN HK.out.symm hown9
      have HFIN := Lib.hid hfin
      clear hfin hown9 hgr9 hat9 hb9
      go_wp2_with fail
      go_ret
      exact ⟨rfl, HFIN.out.1, _, HFIN.out.2⟩
    · refine wpP_step rfl (fun K hK => ?_)
      go_simp
      refine hK _ _ ?_
      clear hK K
      have hnew := own_lit2 V1 #[.int .i64 m.seq, .int .i64 m.bar, .slice a m.l.length c] 33 V1.heap.size 1 3 0 rfl rfl (by decide) (Nat.zero_le _)
      have hAV8 := bel_alloc V1 (.cells #[.int .i64 m.seq, .int .i64 m.bar, .slice a m.l.length c] 33)
      have hbV8 := bel_trans hbV1 hAV8
      have hs8 : V1.heap.size < (V1.alloc (.cells #[.int .i64 m.seq, .int .i64 m.bar, .slice a m.l.length c] 33)).heap.size := by simp
      obtain ⟨V8, hV8⟩ : ∃ Y, V1.alloc (.cells #[.int .i64 m.seq, .int .i64 m.bar, .slice a m.l.length c] 33) = Y := ⟨_, rfl⟩
      rw [hV8] at hnew hAV8 hbV8 hs8 ⊢
      have hown0 := own_far hown0 hAV8
      refine anyP_one (k := 6) (by kernel_rfl) (by decide) rfl rfl hbV8 ?_
      refine wp_append_reads V8 (.tmp 19) (.tmp 23) 41 rfl W.heap.size 33 i0 _ 3 40 Try.underlying41 hi0 hz0 hz1 hz2 rfl (by omega) V.heap.size 0 0 [] (by rfl) hown0 (.slice la k lc) k (msgCells ms) (by rfl) (HROW.out.below hbV8) (by rw [msgCells_len, HK.out]) (msg_one ms HSL.out) (by unfold maxLen; omega) (by omega) hbV8.size ?_
      intro g6 c6 V6 hown6 hgr6 hat6
      rw [Nat.zero_add, List.nil_append] at hown6
      have hbV6 := grown_bel hbV8 hown0 hgr6
      have hnew := own_kept hnew (w' := V6) (fun g hg => by simp only [Value.ownBlock, Option.some.injEq] at hg; subst hg; exact hgr6.block _ hs8 (fun e => by simp only [Option.some.injEq] at e; omega))
      refine anyP_one (k := 9) (by kernel_rfl) (by decide) rfl rfl hbV6 ?_
      refine wp_append_reads V6 (.tmp 24) (.tmp 26) 41 rfl W.heap.size 33 i0 _ 3 40 Try.underlying41 hi0 hz0 hz1 hz2 rfl (by omega) g6 k c6 (msgCells ms) (by simp [Act.eval, Act.put]) hown6 (.slice (some ⟨V1.heap.size, 0, none⟩) 1 1) 1 [.int .i64 m.seq, .int .i64 m.bar, .slice a m.l.length c] (by simp [Act.eval, Act.put]) (Reads.own hnew) rfl (by simp [Value.oneCell']) (by unfold maxLen; omega) (by omega) hbV6.size ?_
      intro g9 c9 V9 hown9 hgr9 hat9
      have hb9 := grown_bel hbV6 hown6 hgr9
      have q2 := (hb9.cell (p := ⟨rb, 0, none⟩) hlt).trans b0
      have qf := cells_free ((hb9.block rb hlt).trans HBOX.out) 0
      refine anyP_leaf hb9 (by kernel_rfl) ?_
      simp only [List.drop_succ_cons, List.drop_zero]
      have hfin := put_fin HBW.out hb9 HBOX.out HRN.out hN HK.out.symm hown9
      have HFIN := Lib.hid hfin
      clear hfin hown9 hgr9 hat9 hb9
      go_wp2_with fail
      go_ret
      exact ⟨rfl, HFIN.out.1, _, HFIN.out.2⟩
  · refine wpP_step rfl (fun K hK => ?_)
    go_simp
    refine hK _ _ ?_
    clear hK K
    have hnew := own_lit2 V #[.int .i64 m.seq, .int .i64 m.bar, .slice a m.l.length c] 33 V.heap.size 1 3 0 rfl rfl (by decide) (Nat.zero_le _)
    have hAV8 := bel_alloc V (.cells #[.int .i64 m.seq, .int .i64 m.bar, .slice a m.l.length c] 33)
    have hbV8 := bel_trans hbV hAV8
    have hs8 : V.heap.size < (V.alloc (.cells #[.int .i64 m.seq, .int .i64 m.bar, .slice a m.l.length c] 33)).heap.size := by simp
    obtain ⟨V8, hV8⟩ : ∃ Y, V.alloc (.cells #[.int .i64 m.seq, .int .i64 m.bar, .slice a m.l.length c] 33) = Y := ⟨_, rfl⟩
    rw [hV8] at hnew hAV8 hbV8 hs8 ⊢
    refine anyP_one (k := 1) (by kernel_rfl) (by decide) rfl rfl hbV8 ?_
    refine wpP_step rfl (fun K hK => ?_)
    go_simp
    refine hK _ _ ?_
    clear hK K
    have hown0 := own_lit2 V8 #[] 33 V8.heap.size 0 3 W.heap.size rfl rfl (by decide) hbV8.size
    have hbV1 := bel_trans hbV8 (bel_alloc V8 (.cells #[] 33))
    have hs0 : V8.heap.size < (V8.alloc (.cells #[] 33)).heap.size := by simp
    obtain ⟨V1, hV1⟩ : ∃ Y, V8.alloc (.cells #[] 33) = Y := ⟨_, rfl⟩
    rw [hV1] at hown0 hbV1 hs0 ⊢
    have hnew := own_far hnew (w' := V1) (by rw [← hV1]; exact bel_alloc _ _)
    refine anyP_one (k := 6) (by kernel_rfl) (by decide) rfl rfl hbV1 ?_
    refine wp_append_reads V1 (.tmp 19) (.tmp 23) 41 rfl W.heap.size 33 i0 _ 3 40 Try.underlying41 hi0 hz0 hz1 hz2 rfl (by omega) V8.heap.size 0 0 [] (by rfl) hown0 (.slice la k lc) k (msgCells ms) (by rfl) (HROW.out.below hbV1) (by rw [msgCells_len, HK.out]) (msg_one ms HSL.out) (by unfold maxLen; omega) (by omega) hbV1.size ?_
    intro g6 c6 V6 hown6 hgr6 hat6
    rw [Nat.zero_add, List.nil_append] at hown6
    have hbV6 := grown_bel hbV1 hown0 hgr6
    have hnew := own_kept hnew (w' := V6) (fun g hg => by simp only [Value.ownBlock, Option.some.injEq] at hg; subst hg; exact hgr6.block _ (by omega) (fun e => by simp only [Option.some.injEq] at e; omega))
    refine anyP_one (k := 9) (by kernel_rfl) (by decide) rfl rfl hbV6 ?_
    refine wp_append_reads V6 (.tmp 24) (.tmp 26) 41 rfl W.heap.size 33 i0 _ 3 40 Try.underlying41 hi0 hz0 hz1 hz2 rfl (by omega) g6 k c6 (msgCells ms) (by simp [Act.eval, Act.put]) hown6 (.slice (some ⟨V.heap.size, 0, none⟩) 1 1) 1 [.int .i64 m.seq, .int .i64 m.bar, .slice a m.l.length c] (by simp [Act.eval, Act.put]) (Reads.own hnew) rfl (by simp [Value.oneCell']) (by unfold maxLen; omega) (by omega) hbV6.size ?_
    intro g9 c9 V9 hown9 hgr9 hat9
    have hb9 := grown_bel hbV6 hown6 hgr9
    have q2 := (hb9.cell (p := ⟨rb, 0, none⟩) hlt).trans b0
    have qf := cells_free ((hb9.block rb hlt).trans HBOX.out) 0
    refine anyP_leaf hb9 (by kernel_rfl) ?_
    simp only [List.drop_succ_cons, List.drop_zero]
    have hfin := put_fin HBW.out hb9 HBOX.out HRN.out hN HK.out.symm hown9
    have HFIN := Lib.hid hfin
    clear hfin hown9 hgr9 hat9 hb9
    go_wp2_with fail
    go_ret
    exact ⟨rfl, HFIN.out.1, _, HFIN.out.2⟩

end Go.Proofs.Ytgoglcggnmfapaa
