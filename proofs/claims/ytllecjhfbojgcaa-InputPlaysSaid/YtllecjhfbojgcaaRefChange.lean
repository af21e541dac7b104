/-
  The reference's Change walked.
-/
import Derived.Test.YtllecjhfbojgcaaRefMade
namespace Go.Proofs.Ytllecjhfbojgcaa
open Go.RowKit
set_option maxRecDepth 20000

theorem infoCh : (Try.prog.info? 132).map (fun i => (i.zero, i.size, i.bytes)) = some (some (.agg #[.int .i64 0, .int .i64 0, .int .i64 0, .string ⟨#[]⟩]), 4, 40) := by kernel_rfl
theorem yields_load_mid {P : Program} {ops : Array Oper} {C : World → Prop} {o : Oper} {a : Act} (hw : Region.wanted o (yielded ops a.tmps) = true) (ty : TypeId) (x : Operand) (ho : o.op = .load ty x)
    (b off : Nat) (hx : a.eval x = .pointer (some ⟨b, off, none⟩)) (cs : List Value) (d : TypeDesc) (hS : ∀ w, C w → w.rangeAt b off cs)
    (hu : P.underlying ty = some d) (hd : d.isRow = true) (hi : (P.info? ty).map (·.size) = some cs.length) : ∀ W, C W → YieldsAt P ops W o (.agg cs.toArray) a := fun W hW =>
  .inl ⟨hw, .inl (by
    unfold execOp
    simp only [ho, hx, Instr.loadAt, Instr.sureAddr, Sem.run_bind, Sem.run_pure, Result.andThen_ok, run_loadVar_mid W b off ty cs d (hS W hW) hu hd hi])⟩
/-- As the kit's law, the world spelled by its name. -/
theorem wp_region_still' {id : Nat} {P : Program} {Q : Exit → Act → World → Prop} {a : Act} {w : World} {l : List Oper} (hm : P.follows .mixedOrders = true) (hB : Region.lexB .any l.toArray = true)
    (h : wpStill P l.toArray w.drew (fun a' => Q .normal a' w.drew) l a) : (Code.region id l.toArray true).wp P Q a w := wp_region_still_lit hm hB h
theorem wpStill_want {P : Program} {ops : Array Oper} {w : World} {Q : Act → Prop} {o : Oper} {rest : List Oper} {a : Act} (hw : Region.wanted o (yielded ops a.tmps) = true) (h : ∀ K : Act → Prop, (∀ a, wpStill P ops w Q rest a → K a) → o.still P a w K) : wpStill P ops w Q (o :: rest) a := by
  unfold wpStill
  rw [if_pos hw]
  exact h _ (fun _ h => h)
theorem wpStill_skip {P : Program} {ops : Array Oper} {w : World} {Q : Act → Prop} {o : Oper} {rest : List Oper} {a : Act} (hw : Region.wanted o (yielded ops a.tmps) = false) (h : ∀ K : Act → Prop, (∀ a, wpStill P ops w Q rest a → K a) → K (a.put o.dst undef)) : wpStill P ops w Q (o :: rest) a := by
  unfold wpStill
  rw [if_neg (by rw [hw]; decide)]
  exact h _ (fun _ h => h)
theorem own_lit2 (w : World) (c : Array Value) (T : TypeId) (m n size base : Nat) (hm : m = w.heap.size) (hc : c.size = n * size) (hn : n ≤ maxLen) (hb : base ≤ w.heap.size) : (w.alloc (.cells c T)).ownsRow base T size (.slice (some ⟨m, 0, none⟩) n n) n c.toList := by
  subst hm
  exact ⟨by simp [hc], .inr ⟨w.heap.size, n, c, rfl, hb, heap_alloc_new w _, Nat.le_refl _, hn, by omega, List.take_of_length_le (by simp [hc])⟩⟩
theorem own_far {w w' : World} {base size n : Nat} {e : TypeId} {v : Value} {xs : List Value} (h : w.ownsRow base e size v n xs) (hb : Below w.heap.size w w') : w'.ownsRow base e size v n xs :=
  own_kept h (fun g hg => by
    rcases h.2 with ⟨h, -⟩ | ⟨g', cap', cur, hv, h2, h3, _⟩
    · rw [h] at hg; cases hg
    · rw [hv] at hg
      simp only [Value.ownBlock, Option.some.injEq] at hg
      exact hb.block g (by rw [← hg]; exact (Array.getElem?_eq_some_iff.1 h3).1))
theorem grown_bel {W W0 w3 : World} {v : Value} {size n : Nat} {e : TypeId} {xs : List Value} (h0 : Below W.heap.size W W0) (ho : W0.ownsRow W.heap.size e size v n xs) (hg : W0.grownBy w3 v.ownBlock) : Below W.heap.size W w3 :=
  h0.grown hg h0.size (fun k hk => by
    rcases ho.2 with ⟨h, -⟩ | ⟨g', cap', cur, hv, h2, h3, _⟩
    · rw [h] at hk; cases hk
    · rw [hv] at hk
      simp only [Value.ownBlock, Option.some.injEq] at hk
      omega)

/-- Behind the store of the new row. -/
theorem rchange_fin {w X V9 : World} {r g9 c9 : Nat} {S1 S2 : Dk.St} {G : Nat → Prop} {lo : Value} {c : Dk.Ch} (hw : Only G w X) (hGr : G r) (hGlt : ∀ k, G k → k < w.heap.size) (hbox : X.heap[r]? = some (.cells (diskCells S1 lo) 61)) (h9 : Below X.heap.size X V9)
    (ho : V9.ownsRow X.heap.size 132 4 (.slice (some ⟨g9, 0, none⟩) (S1.loose.length + 1) c9) (S1.loose.length + 1) (chgCells S1.loose ++ chCells c)) (hn : S1.now.length = 16) (hs : S1.sure.length = 16) (h2 : S2 = { S1 with loose := S1.loose ++ [c] }) (hok : Dk.Ok S2) :
    RTurned w (V9.setCell ⟨r, 33, none⟩ (.slice (some ⟨g9, 0, none⟩) (S1.loose.length + 1) c9)) r S2 G := by
  have hlt := (Array.getElem?_eq_some_iff.1 hbox).1
  have hg : X.heap.size ≤ g9 ∧ g9 < V9.heap.size := by
    rcases ho.2 with ⟨h, -⟩ | ⟨g', cap', cur, hv, h2, h3, _⟩
    · cases h
    · simp only [Value.slice.injEq, Option.some.injEq, Addr.mk.injEq] at hv
      have := (Array.getElem?_eq_some_iff.1 h3).1
      omega
  have hsX := hw.size
  have hs9 := h9.size
  have hb9 := (h9.block r hlt).trans hbox
  have hne : ∀ k, k ≠ r → (V9.setCell ⟨r, 33, none⟩ (.slice (some ⟨g9, 0, none⟩) (S1.loose.length + 1) c9)).heap[k]? = V9.heap[k]? := fun k hk => Below.heap_setCell _ _ _ _ (by exact hk)
  refine ⟨fun k => k = r ∨ k = g9 ∨ G k, (hw.trans (Only.below h9)).trans (Only.setCell _ _ ⟨r, 33, none⟩ _ hGr), ⟨hok, .inl rfl, fun k hk => ?_, .slice (some ⟨g9, 0, none⟩) (S1.loose.length + 1) c9, ?_, ?_, fun g h => ?_⟩, fun k hk => ?_⟩
  · simp only [World.size_setCell]
    rcases hk with rfl | rfl | hk
    · omega
    · exact hg.2
    · have := hGlt k hk; omega
  · rw [cells_set hb9, (diskC_set hn hs lo).1, h2]
    rfl
  · rw [h2]
    show World.ownsRow _ 0 _ 4 _ (S1.loose ++ [c]).length (chgCells (S1.loose ++ [c]))
    rw [List.length_append, List.length_singleton, chgCells_snoc]
    have h0 := own_kept ho (w' := V9.setCell ⟨r, 33, none⟩ (.slice (some ⟨g9, 0, none⟩) (S1.loose.length + 1) c9)) (fun g hg' => by
      simp only [Value.ownBlock, Option.some.injEq] at hg'
      subst hg'
      exact hne _ (by omega))
    rcases h0 with ⟨q1, ⟨q2, -⟩ | ⟨g', cap', cur, q2, q3, q4⟩⟩
    · cases q2
    · exact ⟨q1, .inr ⟨g', cap', cur, q2, Nat.zero_le _, q4⟩⟩
  · simp only [Value.ownBlock, Option.some.injEq] at h
    exact .inr (.inl h.symm)
  · rcases hk with rfl | rfl | hk
    · exact .inl hGr
    · exact .inr (by omega)
    · exact .inl hk

set_option maxHeartbeats 8000000 in
set_option maxRecDepth 100000 in
theorem rchange_app (w : World) (r : Nat) (S : Dk.St) (G : Nat → Prop) (h : RDAt w r S G) (f : Nat) (hf : f < 16) (s : ByteArray) (hoff : S.off = false) (hroom : (s.size : Int) ≤ Dk.leftOf S) (hm : S.loose.length ≤ 1000000000) :
    Calls Try.prog 93 #[ptr r 0, .agg #[.int .i64 1, .int .i64 (f : Int), .int .i64 0, .string s]] w fun e w' => e = .returned (.int .i64 (Dk.change S (.app f s)).1) ∧ RTurned w w' r (Dk.change S (.app f s)).2 G := by
  obtain ⟨i0, hi0, hz0, hz1, hz2⟩ := info_parts infoCh
  have hbA := bel_alloc w (.cells #[.int .i64 1, .int .i64 (f : Int), .int .i64 0, .string s] 132)
  have hrd := h.below hbA
  have hbx := heap_alloc_new w (.cells #[.int .i64 1, .int .i64 (f : Int), .int .i64 0, .string s] 132)
  obtain ⟨bc, hbc⟩ : ∃ b, w.heap.size = b := ⟨_, rfl⟩
  have hGlt : ∀ k, G k → k < bc := by rw [← hbc]; exact h.lt
  have hok2 : Dk.Ok (Dk.change S (.app f s)).2 := Dk.change_ok h.ok (.app f s) hf (by rw [Dk.total_app f s S.now (by rw [h.ok.nowL]; exact hf)]; unfold Dk.leftOf at hroom; omega)
  obtain ⟨W1, hW1⟩ : ∃ W, w.alloc (.cells #[.int .i64 1, .int .i64 (f : Int), .int .i64 0, .string s] 132) = W := ⟨_, rfl⟩
  rw [hW1] at hbA hrd hbx
  rw [hbc] at hbx
  have x0 := cells_at hbx 0 _ rfl
  have x1 := cells_at hbx 1 _ rfl
  have x2 := cells_at hbx 2 _ rfl
  have x3 := cells_at hbx 3 _ rfl
  simp only [List.getElem_toArray, List.getElem_cons_zero, List.getElem_cons_succ] at x0 x1 x2 x3
  have hbcl : bc < W1.heap.size := (Array.getElem?_eq_some_iff.1 hbx).1
  obtain ⟨lo, hc, hl, hg⟩ := hrd.cells
  obtain ⟨c33, c34, -⟩ := diskC_rest h.ok lo
  have c34 := cells_at hc 34 _ c34
  rw [hoff] at c34
  have HBA := Lib.hid hbA
  have HBCW := Lib.hid hbc
  have HRD := Lib.hid hrd
  have HBX := Lib.hid hbx
  have HOK2 := Lib.hid hok2
  have HGLT := Lib.hid hGlt
  have HNL := Lib.hid h.ok.nowL
  have HOKS := Lib.hid h.ok
  have HGR := Lib.hid h.mem
  have HTL := Lib.hid (show (Dk.total S.now : Int) + (s.size : Int) ≤ (S.room : Int) by unfold Dk.leftOf at hroom; omega)
  have HLF := Lib.hid (fun W (hb : Below W1.heap.size W1 W) => rleft_any W r S G (hrd.below hb))
  clear h hbA hrd hbx hc hl hg hok2 hGlt c33
  have d1 : decide ((f : Int) < 0) = false := by simp
  have d2 : decide ((15 : Int) < (f : Int)) = false := by simp; omega
  have d3 : decide (Dk.leftOf S < (s.size : Int)) = false := by simp; omega
  unfold ptr
  go_enter Try.func93, Try.ntmps93
  go_upto_region 1 with fail
  clear hW1 hbc
  go_wp2_with fail
  refine wp_region_still' (by kernel_rfl) (by kernel_rfl) ?_
  iterate 8 still_step
  still_call ((HLF.out _ (bel_drew _)).mono (fun e w h => ⟨h.1, h.2.symm⟩))
  repeat still_step
  refine wpStill_nil ?_
  go_wp2_with fail
  generalize hWa : W1.drew = Wa
  have x0 : Wa.cell? ⟨bc, 0, none⟩ = some (.int .i64 1) := by rw [← hWa]; exact x0
  have x1 : Wa.cell? ⟨bc, 1, none⟩ = some (.int .i64 (f : Int)) := by rw [← hWa]; exact x1
  have x2 : Wa.cell? ⟨bc, 2, none⟩ = some (.int .i64 0) := by rw [← hWa]; exact x2

  have hba : Below W1.heap.size W1 Wa := by rw [← hWa]; exact bel_drew _
  have HBAA := Lib.hid hba
  have hbca : bc < Wa.heap.size := by have := hba.size; omega
  clear hWa hba
  refine wp_region_free [0, 1, 2, 3, 4, 5, 6, 7, 8, 9, 10, 11, 12, 13, 14, 15, 16, 17, 18, 19] 20 (fun W' => Below Wa.heap.size Wa W') (by kernel_rfl) (by kernel_rfl) ?_
  change wpYields _ _ _ _ [_, _, _, _, _, _, _, _, _, _, _, _, _, _, _, _, _, _, _, _] _
  iterate 20 (refine yields_step (fun K hK => ?_); apply Exists.intro; apply And.intro; (first | (apply yields_at rfl; rintro W' hb; have z0 := (hb.cell (p := ⟨bc, 0, none⟩) hbca).trans x0; have z1 := (hb.cell (p := ⟨bc, 1, none⟩) hbca).trans x1; have z2 := (hb.cell (p := ⟨bc, 2, none⟩) hbca).trans x2; go_simp; first | done | rfl) | exact (fun _ _ => .inr ⟨by rfl, rfl⟩)); go_simp; refine hK _ ?_; clear hK K)
  refine yields_nil ?_
  refine anyP_leaf (bel_drew Wa) (by kernel_rfl) ?_
  simp only [List.drop_succ_cons, List.drop_zero]
  go_wp2_with fail
  generalize hW2 : Wa.drew = W2
  have hb2 : Below W1.heap.size W1 W2 := by rw [← hW2]; exact bel_trans HBAA.out (bel_drew _)
  refine (rop_any W2 r S G (HRD.out.below hb2)).mono ?_
  rintro e W3 ⟨rfl, ht⟩
  obtain ⟨G1, ho1, hD1, hg1⟩ := ht
  have hbx3 : W3.heap[bc]? = some (.cells #[.int .i64 1, .int .i64 (f : Int), .int .i64 0, .string s] 132) := by
    rw [ho1.block bc (by have := hb2.size; omega) (fun e => by have := HGLT.out bc e; omega), hb2.block bc hbcl]
    exact HBX.out
  have HBX3 := Lib.hid hbx3
  have hon3 : Only G w W3 := (Only.below (bel_trans HBA.out hb2)).trans ho1
  have HON3 := Lib.hid hon3
  have HB22 := Lib.hid hb2
  have HD1 := Lib.hid hD1
  have HG1 := Lib.hid hg1
  by_cases h0 : S.left = 0
  · have hop : Dk.op S = (50, { S with off := true }) := if_pos h0
    have hch : Dk.change S (.app f s) = (50, { S with off := true }) := if_pos h0
    rw [hop] at HD1 ⊢
    have HCH := Lib.hid hch
    clear hop hch h0 hb2 hW2 ho1 hD1 hg1 hbx3 hon3
    go_wp2_with fail
    go_ret
    rw [HCH.out]
    refine ⟨rfl, G1, HON3.out, HD1.out, fun k hk => ?_⟩
    have hs := HBA.out.size
    rcases HG1.out k hk with h | h
    · exact .inl h
    · exact .inr (by have := HB22.out.size; omega)
  · have hop : Dk.op S = (0, { S with left := Dk.less S.left }) := by
      unfold Dk.op
      rw [if_neg h0]
      unfold Dk.less
      split <;> rfl
    have hch : Dk.change S (.app f s) = (0, { S with now := Dk.Ch.run (.app f s) S.now, loose := S.loose ++ [(.app f s)], left := Dk.less S.left }) := if_neg h0
    rw [hop] at HD1 ⊢
    rw [hch] at HOK2
    have HCH := Lib.hid hch
    clear hop hch h0 hb2 hW2 ho1 hD1 hg1 hbx3 hon3 HRD HBAA
    obtain ⟨lo1, hc1, hl1, hg1⟩ := HD1.out.cells
    have hrl := (Array.getElem?_eq_some_iff.1 hc1).1
    have hbl3 := (Array.getElem?_eq_some_iff.1 HBX3.out).1
    have HC1 := Lib.hid hc1
    have HL1 := Lib.hid hl1
    have HLG := Lib.hid hg1
    have hin := Lib.hid (rinfo (strs S.now) (by rw [strs_len]; exact HNL.out))
    have HRG := Lib.hid (fun (W' : World) (hb : Below W3.heap.size W3 W') => rrange_now HD1.out.ok ((hb.block r hrl).trans HC1.out))
    obtain ⟨fs2, hfs2⟩ : ∃ x, Dk.Ch.run (.app f s) S.now = x := ⟨_, rfl⟩
    have hl2 : fs2.length = 16 := by rw [← hfs2, Dk.run_len]; exact HNL.out
    have HMD := Lib.hid (show ∀ W, Calls Try.prog 65 #[.agg (strs S.now).toArray, .agg #[.int .i64 1, .int .i64 (f : Int), .int .i64 0, .string s], .int .i64 (s.size : Int)] W fun e w' => e = .returned (.agg (strs fs2).toArray) ∧ Below W.heap.size W w' from by rw [← hfs2]; exact (fun W => by have := made_app W S.now HNL.out f hf s (s.size : Int) (by have hh := HOK2.out; have h9 := Dk.total_app f s S.now (by rw [HNL.out]; exact hf); have h8 := Dk.at_le S.now f; have h7 := HTL.out; have h6 := HOKS.out.room; omega); rwa [Dk.clip_all, Dk.part_all] at this))
    rw [hfs2] at HOK2
    have HFS := Lib.hid hfs2
    have HL2 := Lib.hid hl2
    clear hc1 hl1 hg1 hfs2 hl2
    go_wp2_with fail
    refine wp_region_free [0, 1, 2, 3, 4, 5, 6, 7, 8] 10 (fun W' => Below W3.heap.size W3 W') (by kernel_rfl) (by kernel_rfl) ?_
    change wpYields _ _ _ _ [_, _, _, _, _, _, _, _, _] _
    iterate 9 (refine yields_step (fun K hK => ?_); apply Exists.intro; apply And.intro; (first | exact yields_load_mid rfl 58 _ rfl r 1 rfl (strs S.now) _ HRG.out Try.underlying58 rfl hin.out | (apply yields_at rfl; rintro W' hb; have z := (hb.block bc hbl3).trans HBX3.out; have z0 := cells_at z 0 _ rfl; have z1 := cells_at z 1 _ rfl; have z2 := cells_at z 2 _ rfl; have z3 := cells_at z 3 _ rfl; simp only [List.getElem_toArray, List.getElem_cons_zero, List.getElem_cons_succ] at z0 z1 z2 z3; go_simp; first | done | rfl)); go_simp; refine hK _ ?_; clear hK K)
    refine yields_nil ?_
    refine anyP_one (k := 9) (by kernel_rfl) (by decide) rfl rfl (bel_drew W3) ?_
    refine wpP_step rfl (fun K hK => ?_)
    go_simp
    go_at_call 65
    refine (HMD.out _).mono ?_
    rintro e W5 ⟨rfl, hb5⟩
    have hb5 : Below W3.heap.size W3 W5 := bel_trans (bel_drew W3) hb5
    refine hK _ _ ?_
    clear hK K
    refine anyP_leaf hb5 (by kernel_rfl) ?_
    simp only [List.drop_succ_cons, List.drop_zero]
    have hc5 := (hb5.block r hrl).trans HC1.out
    have hth := Lib.hid (there_of hc5 1 (strs fs2).toArray.size (by have hn : (diskCells { S with left := Dk.less S.left } lo1).size = 36 := (by unfold diskCells; rw [List.size_toArray, diskL_len HD1.out.ok]); rw [hn, List.size_toArray, strs_len, HL2.out]; omega))
    have hone := Lib.hid (strs_one fs2)
    have hin' := Lib.hid (rinfo' (strs fs2) (by rw [strs_len]; exact HL2.out))
    obtain ⟨X, hX⟩ : ∃ X, W5.setCells r 1 (strs fs2).toArray.toList = X := ⟨_, rfl⟩
    have hcX : X.heap[r]? = some (.cells (diskCells { S with now := fs2, left := Dk.less S.left } lo1) 61) := by
      rw [← hX, heap_setCells _ _ _ _ hc5, puts_now (S := { S with left := Dk.less S.left }) HNL.out lo1 fs2 HL2.out]
      rfl
    have hneX : ∀ k, k ≠ r → k < W5.heap.size → X.heap[k]? = W5.heap[k]? := fun k hk hlt => by
      rw [← hX]
      exact (Only.setCells (S := fun k => k = r) r rfl (strs fs2).toArray.toList 1 W5).block k hlt hk
    have honX : Only G w X := by
      rw [← hX]
      exact (HON3.out.trans (Only.below hb5)).trans (Only.setCells (S := G) r HGR.out _ _ _)
    have hsX : W5.heap.size ≤ X.heap.size := by
      rw [← hX]
      exact (Only.setCells (S := fun k => k = r) r rfl (strs fs2).toArray.toList 1 W5).size
    have hrb : r < bc := HGLT.out r HGR.out
    have hbX : X.heap[bc]? = some (.cells #[.int .i64 1, .int .i64 (f : Int), .int .i64 0, .string s] 132) := by
      rw [hneX bc (by omega) (by have := hb5.size; omega), hb5.block bc hbl3]
      exact HBX3.out
    have hlX : X.ownsRow 0 132 4 lo1 S.loose.length (chgCells S.loose) := by
      refine own_kept HL1.out (fun g hg => ?_)
      have hgl : g < W3.heap.size := HD1.out.lt g (HLG.out g hg)
      have hgr : g ≠ r := by
        intro e
        rcases HL1.out.2 with hh | ⟨g', cap, cur, hv, _, hcc, _⟩
        · rw [hh.1] at hg; cases hg
        · rw [hv] at hg
          simp only [Value.ownBlock, Option.some.injEq] at hg
          rw [hg, e, HC1.out] at hcc
          simp only [Option.some.injEq, Obj.cells.injEq] at hcc
          exact absurd hcc.2.1 (by decide)
      rw [hneX g hgr (by have := hb5.size; omega)]
      exact hb5.block g hgl
    have HXX := Lib.hid hX
    go_wp2_with (refine wpList_store_mid rfl 58 _ _ rfl r 1 (strs fs2).toArray rfl rfl hth.out hin'.out hone.out ?_; rw [HXX.out])
    obtain ⟨la, lc, rfl⟩ := (Reads.own hlX).shape
    obtain ⟨k, hk⟩ : ∃ k, S.loose.length = k := ⟨_, rfl⟩
    have hok3 : Dk.Ok { S with now := fs2, loose := S.loose ++ [(.app f s)], left := Dk.less S.left } := HOK2.out
    have p33 := cells_at hcX 33 (.slice la k lc) (by show (diskL { S with now := fs2, loose := S.loose ++ [(.app f s)], left := Dk.less S.left } _).toArray[33]? = _; rw [← hk]; simpa using diskL_rest hok3 (.slice la S.loose.length lc) 0)
    have hrX := (Array.getElem?_eq_some_iff.1 hcX).1
    have hbcX := (Array.getElem?_eq_some_iff.1 hbX).1
    have HBOX := Lib.hid hcX
    have HROW := Lib.hid (Reads.own hlX)
    have HBXX := Lib.hid hbX
    have HONX := Lib.hid honX
    have HK := Lib.hid hk
    rw [hk] at HROW hm
    have HX9 := Lib.hid (fun (W' : World) (hb : Below X.heap.size X W') => (hb.cell (p := ⟨r, 33, none⟩) hrX).trans p33)
    clear hX hneX honX hcX hbX hlX hb5 hc5 hsX HXX hth hone hin' HRG hin hbl3 hrl hok3 p33 hk
    refine wp_region_free [0, 2, 3, 4, 5, 7] 10 (fun W' => Below X.heap.size X W') (by kernel_rfl) (by kernel_rfl) ?_
    change wpYields _ _ _ _ [_, _, _, _, _, _] _
    iterate 6 (refine yields_step (fun K hK => ?_); apply Exists.intro; apply And.intro; (apply yields_at rfl; rintro W' hb; have zz := HX9.out W' hb; have z := (hb.block bc hbcX).trans HBXX.out; have z0 := cells_at z 0 _ rfl; have z1 := cells_at z 1 _ rfl; have z2 := cells_at z 2 _ rfl; have z3 := cells_at z 3 _ rfl; simp only [List.getElem_toArray, List.getElem_cons_zero, List.getElem_cons_succ] at z0 z1 z2 z3; go_simp; first | done | rfl); go_simp; refine hK _ ?_; clear hK K)
    refine yields_nil ?_
    obtain ⟨V, hV⟩ : ∃ V, X.drew = V := ⟨_, rfl⟩
    have hbV : Below X.heap.size X V := by rw [← hV]; exact bel_drew X
    rw [hV]
    have hnl3 : fs2.length = 16 := HL2.out
    refine anyP_two (k := 1) (k' := 8) (by kernel_rfl) (by decide) (by decide) rfl rfl rfl rfl hbV ?_ ?_
    · refine wpP_step rfl (fun K hK => ?_)
      go_simp
      refine hK _ _ ?_
      clear hK K
      have hown0 := own_lit2 V #[] 132 V.heap.size 0 4 X.heap.size rfl rfl (by decide) hbV.size
      have hbV1 := bel_trans hbV (bel_alloc V (.cells #[] 132))
      have hs0 : V.heap.size < (V.alloc (.cells #[] 132)).heap.size := by simp
      obtain ⟨V1, hV1⟩ : ∃ Y, V.alloc (.cells #[] 132) = Y := ⟨_, rfl⟩
      rw [hV1] at hown0 hbV1 hs0 ⊢
      refine anyP_two (k := 6) (k' := 8) (by kernel_rfl) (by decide) (by decide) rfl rfl rfl rfl hbV1 ?_ ?_
      · refine wp_append_reads V1 (.tmp 90) (.tmp 94) 59 rfl X.heap.size 132 i0 _ 4 40 Try.underlying59 hi0 hz0 hz1 hz2 rfl (by omega) V.heap.size 0 0 [] (by rfl) hown0 (.slice la k lc) k (chgCells S.loose) (by rfl) (HROW.out.below hbV1) (by rw [chgCells_len, HK.out]) (chgCells_one S.loose) (by unfold maxLen; omega) (by omega) hbV1.size ?_
        intro g6 c6 V6 hown6 hgr6 hat6
        rw [Nat.zero_add, List.nil_append] at hown6
        have hbV6 := grown_bel hbV1 hown0 hgr6
        refine anyP_one (k := 8) (by kernel_rfl) (by decide) rfl rfl hbV6 ?_
        refine wpP_step rfl (fun K hK => ?_)
        go_simp
        refine hK _ _ ?_
        clear hK K
        have hnew := own_lit2 V6 #[.int .i64 1, .int .i64 (f : Int), .int .i64 0, .string s] 132 V6.heap.size 1 4 0 rfl rfl (by decide) (Nat.zero_le _)
        have hAV8 := bel_alloc V6 (.cells #[.int .i64 1, .int .i64 (f : Int), .int .i64 0, .string s] 132)
        have hbV8 := bel_trans hbV6 hAV8
        have hs8 : V6.heap.size < (V6.alloc (.cells #[.int .i64 1, .int .i64 (f : Int), .int .i64 0, .string s] 132)).heap.size := by simp
        obtain ⟨V8, hV8⟩ : ∃ Y, V6.alloc (.cells #[.int .i64 1, .int .i64 (f : Int), .int .i64 0, .string s] 132) = Y := ⟨_, rfl⟩
        rw [hV8] at hnew hAV8 hbV8 hs8 ⊢
        have hown6 := own_far hown6 hAV8
        refine anyP_one (k := 9) (by kernel_rfl) (by decide) rfl rfl hbV8 ?_
        refine wp_append_reads V8 (.tmp 95) (.tmp 97) 59 rfl X.heap.size 132 i0 _ 4 40 Try.underlying59 hi0 hz0 hz1 hz2 rfl (by omega) g6 k c6 (chgCells S.loose) (by simp [Act.eval]) hown6 (.slice (some ⟨V6.heap.size, 0, none⟩) 1 1) 1 (#[.int .i64 1, .int .i64 (f : Int), .int .i64 0, .string s]).toList (by simp [Act.eval]) (Reads.own hnew) rfl (by simp [Value.oneCell']) (by unfold maxLen; omega) (by omega) hbV8.size ?_
        intro g9 c9 V9 hown9 hgr9 hat9
        have hb9 := grown_bel hbV8 hown6 hgr9
        have qq := cells_at ((hb9.block r hrX).trans HBOX.out) 33 (.slice la k lc) (by have := HX9.out X (Below.refl _ _); rw [cell_of_row X r 33 _ _ _ HBOX.out] at this; exact this)
        have qf := cells_free ((hb9.block r hrX).trans HBOX.out) 33
        refine anyP_leaf hb9 (by kernel_rfl) ?_
        simp only [List.drop_succ_cons, List.drop_zero]
        have hfin := rchange_fin (S1 := { S with now := fs2, left := Dk.less S.left }) (S2 := { S with now := fs2, loose := S.loose ++ [(.app f s)], left := Dk.less S.left }) (c := (.app f s)) HONX.out HGR.out (fun k hk => by have := HGLT.out k hk; have := HBCW.out; omega) HBOX.out hb9 (by show V9.ownsRow X.heap.size 132 4 (.slice (some ⟨g9, 0, none⟩) (S.loose.length + 1) c9) (S.loose.length + 1) _; rw [HK.out]; exact hown9) hnl3 HOKS.out.sureL rfl HOK2.out
        have HFIN := Lib.hid hfin
        clear hfin hown9 hgr9 hat9 hb9
        go_wp2_with fail
        go_ret
        rw [HCH.out, ← HK.out]
        refine ⟨rfl, ?_⟩
        rw [HFS.out]
        exact HFIN.out
      · refine wpP_step rfl (fun K hK => ?_)
        go_simp
        refine hK _ _ ?_
        clear hK K
        have hnew := own_lit2 V1 #[.int .i64 1, .int .i64 (f : Int), .int .i64 0, .string s] 132 V1.heap.size 1 4 0 rfl rfl (by decide) (Nat.zero_le _)
        have hAV8 := bel_alloc V1 (.cells #[.int .i64 1, .int .i64 (f : Int), .int .i64 0, .string s] 132)
        have hbV8 := bel_trans hbV1 hAV8
        have hs8 : V1.heap.size < (V1.alloc (.cells #[.int .i64 1, .int .i64 (f : Int), .int .i64 0, .string s] 132)).heap.size := by simp
        obtain ⟨V8, hV8⟩ : ∃ Y, V1.alloc (.cells #[.int .i64 1, .int .i64 (f : Int), .int .i64 0, .string s] 132) = Y := ⟨_, rfl⟩
        rw [hV8] at hnew hAV8 hbV8 hs8 ⊢
        have hown0 := own_far hown0 hAV8
        refine anyP_one (k := 6) (by kernel_rfl) (by decide) rfl rfl hbV8 ?_
        refine wp_append_reads V8 (.tmp 90) (.tmp 94) 59 rfl X.heap.size 132 i0 _ 4 40 Try.underlying59 hi0 hz0 hz1 hz2 rfl (by omega) V.heap.size 0 0 [] (by rfl) hown0 (.slice la k lc) k (chgCells S.loose) (by rfl) (HROW.out.below hbV8) (by rw [chgCells_len, HK.out]) (chgCells_one S.loose) (by unfold maxLen; omega) (by omega) hbV8.size ?_
        intro g6 c6 V6 hown6 hgr6 hat6
        rw [Nat.zero_add, List.nil_append] at hown6
        have hbV6 := grown_bel hbV8 hown0 hgr6
        have hnew := own_kept hnew (w' := V6) (fun g hg => by simp only [Value.ownBlock, Option.some.injEq] at hg; subst hg; exact hgr6.block _ hs8 (fun e => by simp only [Option.some.injEq] at e; omega))
        refine anyP_one (k := 9) (by kernel_rfl) (by decide) rfl rfl hbV6 ?_
        refine wp_append_reads V6 (.tmp 95) (.tmp 97) 59 rfl X.heap.size 132 i0 _ 4 40 Try.underlying59 hi0 hz0 hz1 hz2 rfl (by omega) g6 k c6 (chgCells S.loose) (by simp [Act.eval, Act.put]) hown6 (.slice (some ⟨V1.heap.size, 0, none⟩) 1 1) 1 (#[.int .i64 1, .int .i64 (f : Int), .int .i64 0, .string s]).toList (by simp [Act.eval, Act.put]) (Reads.own hnew) rfl (by simp [Value.oneCell']) (by unfold maxLen; omega) (by omega) hbV6.size ?_
        intro g9 c9 V9 hown9 hgr9 hat9
        have hb9 := grown_bel hbV6 hown6 hgr9
        have qq := cells_at ((hb9.block r hrX).trans HBOX.out) 33 (.slice la k lc) (by have := HX9.out X (Below.refl _ _); rw [cell_of_row X r 33 _ _ _ HBOX.out] at this; exact this)
        have qf := cells_free ((hb9.block r hrX).trans HBOX.out) 33
        refine anyP_leaf hb9 (by kernel_rfl) ?_
        simp only [List.drop_succ_cons, List.drop_zero]
        have hfin := rchange_fin (S1 := { S with now := fs2, left := Dk.less S.left }) (S2 := { S with now := fs2, loose := S.loose ++ [(.app f s)], left := Dk.less S.left }) (c := (.app f s)) HONX.out HGR.out (fun k hk => by have := HGLT.out k hk; have := HBCW.out; omega) HBOX.out hb9 (by show V9.ownsRow X.heap.size 132 4 (.slice (some ⟨g9, 0, none⟩) (S.loose.length + 1) c9) (S.loose.length + 1) _; rw [HK.out]; exact hown9) hnl3 HOKS.out.sureL rfl HOK2.out
        have HFIN := Lib.hid hfin
        clear hfin hown9 hgr9 hat9 hb9
        go_wp2_with fail
        go_ret
        rw [HCH.out, ← HK.out]
        refine ⟨rfl, ?_⟩
        rw [HFS.out]
        exact HFIN.out
    · refine wpP_step rfl (fun K hK => ?_)
      go_simp
      refine hK _ _ ?_
      clear hK K
      have hnew := own_lit2 V #[.int .i64 1, .int .i64 (f : Int), .int .i64 0, .string s] 132 V.heap.size 1 4 0 rfl rfl (by decide) (Nat.zero_le _)
      have hAV8 := bel_alloc V (.cells #[.int .i64 1, .int .i64 (f : Int), .int .i64 0, .string s] 132)
      have hbV8 := bel_trans hbV hAV8
      have hs8 : V.heap.size < (V.alloc (.cells #[.int .i64 1, .int .i64 (f : Int), .int .i64 0, .string s] 132)).heap.size := by simp
      obtain ⟨V8, hV8⟩ : ∃ Y, V.alloc (.cells #[.int .i64 1, .int .i64 (f : Int), .int .i64 0, .string s] 132) = Y := ⟨_, rfl⟩
      rw [hV8] at hnew hAV8 hbV8 hs8 ⊢
      refine anyP_one (k := 1) (by kernel_rfl) (by decide) rfl rfl hbV8 ?_
      refine wpP_step rfl (fun K hK => ?_)
      go_simp
      refine hK _ _ ?_
      clear hK K
      have hown0 := own_lit2 V8 #[] 132 V8.heap.size 0 4 X.heap.size rfl rfl (by decide) hbV8.size
      have hbV1 := bel_trans hbV8 (bel_alloc V8 (.cells #[] 132))
      have hs0 : V8.heap.size < (V8.alloc (.cells #[] 132)).heap.size := by simp
      obtain ⟨V1, hV1⟩ : ∃ Y, V8.alloc (.cells #[] 132) = Y := ⟨_, rfl⟩
      rw [hV1] at hown0 hbV1 hs0 ⊢
      have hnew := own_far hnew (w' := V1) (by rw [← hV1]; exact bel_alloc _ _)
      refine anyP_one (k := 6) (by kernel_rfl) (by decide) rfl rfl hbV1 ?_
      refine wp_append_reads V1 (.tmp 90) (.tmp 94) 59 rfl X.heap.size 132 i0 _ 4 40 Try.underlying59 hi0 hz0 hz1 hz2 rfl (by omega) V8.heap.size 0 0 [] (by rfl) hown0 (.slice la k lc) k (chgCells S.loose) (by rfl) (HROW.out.below hbV1) (by rw [chgCells_len, HK.out]) (chgCells_one S.loose) (by unfold maxLen; omega) (by omega) hbV1.size ?_
      intro g6 c6 V6 hown6 hgr6 hat6
      rw [Nat.zero_add, List.nil_append] at hown6
      have hbV6 := grown_bel hbV1 hown0 hgr6
      have hnew := own_kept hnew (w' := V6) (fun g hg => by simp only [Value.ownBlock, Option.some.injEq] at hg; subst hg; exact hgr6.block _ (by omega) (fun e => by simp only [Option.some.injEq] at e; omega))
      refine anyP_one (k := 9) (by kernel_rfl) (by decide) rfl rfl hbV6 ?_
      refine wp_append_reads V6 (.tmp 95) (.tmp 97) 59 rfl X.heap.size 132 i0 _ 4 40 Try.underlying59 hi0 hz0 hz1 hz2 rfl (by omega) g6 k c6 (chgCells S.loose) (by simp [Act.eval, Act.put]) hown6 (.slice (some ⟨V.heap.size, 0, none⟩) 1 1) 1 (#[.int .i64 1, .int .i64 (f : Int), .int .i64 0, .string s]).toList (by simp [Act.eval, Act.put]) (Reads.own hnew) rfl (by simp [Value.oneCell']) (by unfold maxLen; omega) (by omega) hbV6.size ?_
      intro g9 c9 V9 hown9 hgr9 hat9
      have hb9 := grown_bel hbV6 hown6 hgr9
      have qq := cells_at ((hb9.block r hrX).trans HBOX.out) 33 (.slice la k lc) (by have := HX9.out X (Below.refl _ _); rw [cell_of_row X r 33 _ _ _ HBOX.out] at this; exact this)
      have qf := cells_free ((hb9.block r hrX).trans HBOX.out) 33
      refine anyP_leaf hb9 (by kernel_rfl) ?_
      simp only [List.drop_succ_cons, List.drop_zero]
      have hfin := rchange_fin (S1 := { S with now := fs2, left := Dk.less S.left }) (S2 := { S with now := fs2, loose := S.loose ++ [(.app f s)], left := Dk.less S.left }) (c := (.app f s)) HONX.out HGR.out (fun k hk => by have := HGLT.out k hk; have := HBCW.out; omega) HBOX.out hb9 (by show V9.ownsRow X.heap.size 132 4 (.slice (some ⟨g9, 0, none⟩) (S.loose.length + 1) c9) (S.loose.length + 1) _; rw [HK.out]; exact hown9) hnl3 HOKS.out.sureL rfl HOK2.out
      have HFIN := Lib.hid hfin
      clear hfin hown9 hgr9 hat9 hb9
      go_wp2_with fail
      go_ret
      rw [HCH.out, ← HK.out]
      refine ⟨rfl, ?_⟩
      rw [HFS.out]
      exact HFIN.out

set_option maxHeartbeats 8000000 in
set_option maxRecDepth 100000 in
theorem rchange_cut (w : World) (r : Nat) (S : Dk.St) (G : Nat → Prop) (h : RDAt w r S G) (f n : Nat) (hf : f < 16) (hoff : S.off = false) (hn : n ≤ (Dk.at' S.now f).size) (hm : S.loose.length ≤ 1000000000) :
    Calls Try.prog 93 #[ptr r 0, .agg #[.int .i64 2, .int .i64 (f : Int), .int .i64 (n : Int), .string ⟨#[]⟩]] w fun e w' => e = .returned (.int .i64 (Dk.change S (.cut f n)).1) ∧ RTurned w w' r (Dk.change S (.cut f n)).2 G := by
  obtain ⟨i0, hi0, hz0, hz1, hz2⟩ := info_parts infoCh
  have hbA := bel_alloc w (.cells #[.int .i64 2, .int .i64 (f : Int), .int .i64 (n : Int), .string ⟨#[]⟩] 132)
  have hrd := h.below hbA
  have hbx := heap_alloc_new w (.cells #[.int .i64 2, .int .i64 (f : Int), .int .i64 (n : Int), .string ⟨#[]⟩] 132)
  obtain ⟨bc, hbc⟩ : ∃ b, w.heap.size = b := ⟨_, rfl⟩
  have hGlt : ∀ k, G k → k < bc := by rw [← hbc]; exact h.lt
  have hok2 : Dk.Ok (Dk.change S (.cut f n)).2 := Dk.change_ok h.ok (.cut f n) ⟨hf, hn⟩ (Nat.le_trans (Dk.total_cut f n S.now (by rw [h.ok.nowL]; exact hf)) h.ok.total)
  obtain ⟨W1, hW1⟩ : ∃ W, w.alloc (.cells #[.int .i64 2, .int .i64 (f : Int), .int .i64 (n : Int), .string ⟨#[]⟩] 132) = W := ⟨_, rfl⟩
  rw [hW1] at hbA hrd hbx
  rw [hbc] at hbx
  have x0 := cells_at hbx 0 _ rfl
  have x1 := cells_at hbx 1 _ rfl
  have x2 := cells_at hbx 2 _ rfl
  have x3 := cells_at hbx 3 _ rfl
  simp only [List.getElem_toArray, List.getElem_cons_zero, List.getElem_cons_succ] at x0 x1 x2 x3
  have hbcl : bc < W1.heap.size := (Array.getElem?_eq_some_iff.1 hbx).1
  obtain ⟨lo, hc, hl, hg⟩ := hrd.cells
  obtain ⟨c33, c34, -⟩ := diskC_rest h.ok lo
  have c34 := cells_at hc 34 _ c34
  rw [hoff] at c34
  have HBA := Lib.hid hbA
  have HBCW := Lib.hid hbc
  have HRD := Lib.hid hrd
  have HBX := Lib.hid hbx
  have HOK2 := Lib.hid hok2
  have HGLT := Lib.hid hGlt
  have HNL := Lib.hid h.ok.nowL
  have HOKS := Lib.hid h.ok
  have HGR := Lib.hid h.mem
  have hcn := rcell_now h.ok hc f hf
  obtain ⟨fv, hfv⟩ : ∃ fv, Dk.at' S.now f = fv := ⟨_, rfl⟩
  rw [hfv] at hcn hn
  have hrl1 := (Array.getElem?_eq_some_iff.1 hc).1
  have HFV := Lib.hid hfv
  clear hfv
  clear h hbA hrd hbx hc hl hg hok2 hGlt c33
  have d1 : decide ((f : Int) < 0) = false := by simp
  have d2 : decide ((15 : Int) < (f : Int)) = false := by simp; omega
  have d3 : decide ((n : Int) < 0) = false := by simp
  have d4 : decide ((fv.size : Int) < (n : Int)) = false := by simp; omega
  have hf16 : (f : Int) < 16 := by omega
  unfold ptr
  go_enter Try.func93, Try.ntmps93
  go_upto_region 1 with fail
  clear hW1 hbc
  go_wp2_with fail
  refine wp_region_free [0, 1, 2, 3, 4, 5, 6, 7, 8, 9] 10 (fun W' => Below W1.heap.size W1 W') (by kernel_rfl) (by kernel_rfl) ?_
  change wpYields _ _ _ _ [_, _, _, _, _, _, _, _, _, _] _
  iterate 10 (refine yields_step (fun K hK => ?_); apply Exists.intro; apply And.intro; (first | (apply yields_at rfl; rintro W' hb; have z0 := (hb.cell (p := ⟨bc, 0, none⟩) hbcl).trans x0; go_simp; first | done | rfl) | exact (fun _ _ => .inr ⟨by rfl, rfl⟩)); go_simp; refine hK _ ?_; clear hK K)
  refine yields_nil ?_
  refine anyP_leaf (bel_drew W1) (by kernel_rfl) ?_
  simp only [List.drop_succ_cons, List.drop_zero]
  go_wp2_with fail
  generalize hWa : W1.drew = Wa
  have x0 : Wa.cell? ⟨bc, 0, none⟩ = some (.int .i64 2) := by rw [← hWa]; exact x0
  have x1 : Wa.cell? ⟨bc, 1, none⟩ = some (.int .i64 (f : Int)) := by rw [← hWa]; exact x1
  have x2 : Wa.cell? ⟨bc, 2, none⟩ = some (.int .i64 (n : Int)) := by rw [← hWa]; exact x2
  have hcn : Wa.cell? ⟨r, 1 + f, none⟩ = some (.string fv) := by rw [← hWa]; exact hcn
  have hrla : r < Wa.heap.size := by rw [← hWa]; exact hrl1
  have hba : Below W1.heap.size W1 Wa := by rw [← hWa]; exact bel_drew _
  have HBAA := Lib.hid hba
  have hbca : bc < Wa.heap.size := by have := hba.size; omega
  clear hWa hba
  refine wp_region_free [0, 1, 2, 3, 4, 5, 6, 7, 8, 9, 10, 11, 12, 13, 14, 15, 16, 17, 18, 19] 20 (fun W' => Below Wa.heap.size Wa W') (by kernel_rfl) (by kernel_rfl) ?_
  change wpYields _ _ _ _ [_, _, _, _, _, _, _, _, _, _, _, _, _, _, _, _, _, _, _, _] _
  iterate 20 (refine yields_step (fun K hK => ?_); apply Exists.intro; apply And.intro; (first | (apply yields_at rfl; rintro W' hb; have z0 := (hb.cell (p := ⟨bc, 0, none⟩) hbca).trans x0; have z1 := (hb.cell (p := ⟨bc, 1, none⟩) hbca).trans x1; have z2 := (hb.cell (p := ⟨bc, 2, none⟩) hbca).trans x2; have zn := (hb.cell (p := ⟨r, 1 + f, none⟩) hrla).trans hcn; go_simp; first | done | rfl) | exact (fun _ _ => .inr ⟨by rfl, rfl⟩)); go_simp; refine hK _ ?_; clear hK K)
  refine yields_nil ?_
  refine anyP_leaf (bel_drew Wa) (by kernel_rfl) ?_
  simp only [List.drop_succ_cons, List.drop_zero]
  go_wp2_with fail
  generalize hW2 : Wa.drew = W2
  have hb2 : Below W1.heap.size W1 W2 := by rw [← hW2]; exact bel_trans HBAA.out (bel_drew _)
  refine (rop_any W2 r S G (HRD.out.below hb2)).mono ?_
  rintro e W3 ⟨rfl, ht⟩
  obtain ⟨G1, ho1, hD1, hg1⟩ := ht
  have hbx3 : W3.heap[bc]? = some (.cells #[.int .i64 2, .int .i64 (f : Int), .int .i64 (n : Int), .string ⟨#[]⟩] 132) := by
    rw [ho1.block bc (by have := hb2.size; omega) (fun e => by have := HGLT.out bc e; omega), hb2.block bc hbcl]
    exact HBX.out
  have HBX3 := Lib.hid hbx3
  have hon3 : Only G w W3 := (Only.below (bel_trans HBA.out hb2)).trans ho1
  have HON3 := Lib.hid hon3
  have HB22 := Lib.hid hb2
  have HD1 := Lib.hid hD1
  have HG1 := Lib.hid hg1
  by_cases h0 : S.left = 0
  · have hop : Dk.op S = (50, { S with off := true }) := if_pos h0
    have hch : Dk.change S (.cut f n) = (50, { S with off := true }) := if_pos h0
    rw [hop] at HD1 ⊢
    have HCH := Lib.hid hch
    clear hop hch h0 hb2 hW2 ho1 hD1 hg1 hbx3 hon3
    go_wp2_with fail
    go_ret
    rw [HCH.out]
    refine ⟨rfl, G1, HON3.out, HD1.out, fun k hk => ?_⟩
    have hs := HBA.out.size
    rcases HG1.out k hk with h | h
    · exact .inl h
    · exact .inr (by have := HB22.out.size; omega)
  · have hop : Dk.op S = (0, { S with left := Dk.less S.left }) := by
      unfold Dk.op
      rw [if_neg h0]
      unfold Dk.less
      split <;> rfl
    have hch : Dk.change S (.cut f n) = (0, { S with now := Dk.Ch.run (.cut f n) S.now, loose := S.loose ++ [(.cut f n)], left := Dk.less S.left }) := if_neg h0
    rw [hop] at HD1 ⊢
    rw [hch] at HOK2
    have HCH := Lib.hid hch
    clear hop hch h0 hb2 hW2 ho1 hD1 hg1 hbx3 hon3 HRD HBAA
    obtain ⟨lo1, hc1, hl1, hg1⟩ := HD1.out.cells
    have hrl := (Array.getElem?_eq_some_iff.1 hc1).1
    have hbl3 := (Array.getElem?_eq_some_iff.1 HBX3.out).1
    have HC1 := Lib.hid hc1
    have HL1 := Lib.hid hl1
    have HLG := Lib.hid hg1
    have hin := Lib.hid (rinfo (strs S.now) (by rw [strs_len]; exact HNL.out))
    have HRG := Lib.hid (fun (W' : World) (hb : Below W3.heap.size W3 W') => rrange_now HD1.out.ok ((hb.block r hrl).trans HC1.out))
    obtain ⟨fs2, hfs2⟩ : ∃ x, Dk.Ch.run (.cut f n) S.now = x := ⟨_, rfl⟩
    have hl2 : fs2.length = 16 := by rw [← hfs2, Dk.run_len]; exact HNL.out
    have HMD := Lib.hid (show ∀ W, Calls Try.prog 65 #[.agg (strs S.now).toArray, .agg #[.int .i64 2, .int .i64 (f : Int), .int .i64 (n : Int), .string ⟨#[]⟩], .int .i64 0] W fun e w' => e = .returned (.agg (strs fs2).toArray) ∧ Below W.heap.size W w' from by rw [← hfs2]; exact (fun W => made_cutc W S.now HNL.out f n hf _ (by rw [HFV.out]; exact hn)))
    rw [hfs2] at HOK2
    have HFS := Lib.hid hfs2
    have HL2 := Lib.hid hl2
    clear hc1 hl1 hg1 hfs2 hl2
    go_wp2_with fail
    refine wp_region_free [0, 1, 2, 3, 4, 5, 6, 7, 8] 10 (fun W' => Below W3.heap.size W3 W') (by kernel_rfl) (by kernel_rfl) ?_
    change wpYields _ _ _ _ [_, _, _, _, _, _, _, _, _] _
    iterate 9 (refine yields_step (fun K hK => ?_); apply Exists.intro; apply And.intro; (first | exact yields_load_mid rfl 58 _ rfl r 1 rfl (strs S.now) _ HRG.out Try.underlying58 rfl hin.out | (apply yields_at rfl; rintro W' hb; have z := (hb.block bc hbl3).trans HBX3.out; have z0 := cells_at z 0 _ rfl; have z1 := cells_at z 1 _ rfl; have z2 := cells_at z 2 _ rfl; have z3 := cells_at z 3 _ rfl; simp only [List.getElem_toArray, List.getElem_cons_zero, List.getElem_cons_succ] at z0 z1 z2 z3; go_simp; first | done | rfl)); go_simp; refine hK _ ?_; clear hK K)
    refine yields_nil ?_
    refine anyP_one (k := 9) (by kernel_rfl) (by decide) rfl rfl (bel_drew W3) ?_
    refine wpP_step rfl (fun K hK => ?_)
    go_simp
    go_at_call 65
    refine (HMD.out _).mono ?_
    rintro e W5 ⟨rfl, hb5⟩
    have hb5 : Below W3.heap.size W3 W5 := bel_trans (bel_drew W3) hb5
    refine hK _ _ ?_
    clear hK K
    refine anyP_leaf hb5 (by kernel_rfl) ?_
    simp only [List.drop_succ_cons, List.drop_zero]
    have hc5 := (hb5.block r hrl).trans HC1.out
    have hth := Lib.hid (there_of hc5 1 (strs fs2).toArray.size (by have hn : (diskCells { S with left := Dk.less S.left } lo1).size = 36 := (by unfold diskCells; rw [List.size_toArray, diskL_len HD1.out.ok]); rw [hn, List.size_toArray, strs_len, HL2.out]; omega))
    have hone := Lib.hid (strs_one fs2)
    have hin' := Lib.hid (rinfo' (strs fs2) (by rw [strs_len]; exact HL2.out))
    obtain ⟨X, hX⟩ : ∃ X, W5.setCells r 1 (strs fs2).toArray.toList = X := ⟨_, rfl⟩
    have hcX : X.heap[r]? = some (.cells (diskCells { S with now := fs2, left := Dk.less S.left } lo1) 61) := by
      rw [← hX, heap_setCells _ _ _ _ hc5, puts_now (S := { S with left := Dk.less S.left }) HNL.out lo1 fs2 HL2.out]
      rfl
    have hneX : ∀ k, k ≠ r → k < W5.heap.size → X.heap[k]? = W5.heap[k]? := fun k hk hlt => by
      rw [← hX]
      exact (Only.setCells (S := fun k => k = r) r rfl (strs fs2).toArray.toList 1 W5).block k hlt hk
    have honX : Only G w X := by
      rw [← hX]
      exact (HON3.out.trans (Only.below hb5)).trans (Only.setCells (S := G) r HGR.out _ _ _)
    have hsX : W5.heap.size ≤ X.heap.size := by
      rw [← hX]
      exact (Only.setCells (S := fun k => k = r) r rfl (strs fs2).toArray.toList 1 W5).size
    have hrb : r < bc := HGLT.out r HGR.out
    have hbX : X.heap[bc]? = some (.cells #[.int .i64 2, .int .i64 (f : Int), .int .i64 (n : Int), .string ⟨#[]⟩] 132) := by
      rw [hneX bc (by omega) (by have := hb5.size; omega), hb5.block bc hbl3]
      exact HBX3.out
    have hlX : X.ownsRow 0 132 4 lo1 S.loose.length (chgCells S.loose) := by
      refine own_kept HL1.out (fun g hg => ?_)
      have hgl : g < W3.heap.size := HD1.out.lt g (HLG.out g hg)
      have hgr : g ≠ r := by
        intro e
        rcases HL1.out.2 with hh | ⟨g', cap, cur, hv, _, hcc, _⟩
        · rw [hh.1] at hg; cases hg
        · rw [hv] at hg
          simp only [Value.ownBlock, Option.some.injEq] at hg
          rw [hg, e, HC1.out] at hcc
          simp only [Option.some.injEq, Obj.cells.injEq] at hcc
          exact absurd hcc.2.1 (by decide)
      rw [hneX g hgr (by have := hb5.size; omega)]
      exact hb5.block g hgl
    have HXX := Lib.hid hX
    go_wp2_with (refine wpList_store_mid rfl 58 _ _ rfl r 1 (strs fs2).toArray rfl rfl hth.out hin'.out hone.out ?_; rw [HXX.out])
    obtain ⟨la, lc, rfl⟩ := (Reads.own hlX).shape
    obtain ⟨k, hk⟩ : ∃ k, S.loose.length = k := ⟨_, rfl⟩
    have hok3 : Dk.Ok { S with now := fs2, loose := S.loose ++ [(.cut f n)], left := Dk.less S.left } := HOK2.out
    have p33 := cells_at hcX 33 (.slice la k lc) (by show (diskL { S with now := fs2, loose := S.loose ++ [(.cut f n)], left := Dk.less S.left } _).toArray[33]? = _; rw [← hk]; simpa using diskL_rest hok3 (.slice la S.loose.length lc) 0)
    have hrX := (Array.getElem?_eq_some_iff.1 hcX).1
    have hbcX := (Array.getElem?_eq_some_iff.1 hbX).1
    have HBOX := Lib.hid hcX
    have HROW := Lib.hid (Reads.own hlX)
    have HBXX := Lib.hid hbX
    have HONX := Lib.hid honX
    have HK := Lib.hid hk
    rw [hk] at HROW hm
    have HX9 := Lib.hid (fun (W' : World) (hb : Below X.heap.size X W') => (hb.cell (p := ⟨r, 33, none⟩) hrX).trans p33)
    clear hX hneX honX hcX hbX hlX hb5 hc5 hsX HXX hth hone hin' HRG hin hbl3 hrl hok3 p33 hk
    refine wp_region_free [0, 2, 3, 4, 5, 7] 10 (fun W' => Below X.heap.size X W') (by kernel_rfl) (by kernel_rfl) ?_
    change wpYields _ _ _ _ [_, _, _, _, _, _] _
    iterate 6 (refine yields_step (fun K hK => ?_); apply Exists.intro; apply And.intro; (apply yields_at rfl; rintro W' hb; have zz := HX9.out W' hb; have z := (hb.block bc hbcX).trans HBXX.out; have z0 := cells_at z 0 _ rfl; have z1 := cells_at z 1 _ rfl; have z2 := cells_at z 2 _ rfl; have z3 := cells_at z 3 _ rfl; simp only [List.getElem_toArray, List.getElem_cons_zero, List.getElem_cons_succ] at z0 z1 z2 z3; go_simp; first | done | rfl); go_simp; refine hK _ ?_; clear hK K)
    refine yields_nil ?_
    obtain ⟨V, hV⟩ : ∃ V, X.drew = V := ⟨_, rfl⟩
    have hbV : Below X.heap.size X V := by rw [← hV]; exact bel_drew X
    rw [hV]
    have hnl3 : fs2.length = 16 := HL2.out
    refine anyP_two (k := 1) (k' := 8) (by kernel_rfl) (by decide) (by decide) rfl rfl rfl rfl hbV ?_ ?_
    · refine wpP_step rfl (fun K hK => ?_)
      go_simp
      refine hK _ _ ?_
      clear hK K
      have hown0 := own_lit2 V #[] 132 V.heap.size 0 4 X.heap.size rfl rfl (by decide) hbV.size
      have hbV1 := bel_trans hbV (bel_alloc V (.cells #[] 132))
      have hs0 : V.heap.size < (V.alloc (.cells #[] 132)).heap.size := by simp
      obtain ⟨V1, hV1⟩ : ∃ Y, V.alloc (.cells #[] 132) = Y := ⟨_, rfl⟩
      rw [hV1] at hown0 hbV1 hs0 ⊢
      refine anyP_two (k := 6) (k' := 8) (by kernel_rfl) (by decide) (by decide) rfl rfl rfl rfl hbV1 ?_ ?_
      · refine wp_append_reads V1 (.tmp 90) (.tmp 94) 59 rfl X.heap.size 132 i0 _ 4 40 Try.underlying59 hi0 hz0 hz1 hz2 rfl (by omega) V.heap.size 0 0 [] (by rfl) hown0 (.slice la k lc) k (chgCells S.loose) (by rfl) (HROW.out.below hbV1) (by rw [chgCells_len, HK.out]) (chgCells_one S.loose) (by unfold maxLen; omega) (by omega) hbV1.size ?_
        intro g6 c6 V6 hown6 hgr6 hat6
        rw [Nat.zero_add, List.nil_append] at hown6
        have hbV6 := grown_bel hbV1 hown0 hgr6
        refine anyP_one (k := 8) (by kernel_rfl) (by decide) rfl rfl hbV6 ?_
        refine wpP_step rfl (fun K hK => ?_)
        go_simp
        refine hK _ _ ?_
        clear hK K
        have hnew := own_lit2 V6 #[.int .i64 2, .int .i64 (f : Int), .int .i64 (n : Int), .string ⟨#[]⟩] 132 V6.heap.size 1 4 0 rfl rfl (by decide) (Nat.zero_le _)
        have hAV8 := bel_alloc V6 (.cells #[.int .i64 2, .int .i64 (f : Int), .int .i64 (n : Int), .string ⟨#[]⟩] 132)
        have hbV8 := bel_trans hbV6 hAV8
        have hs8 : V6.heap.size < (V6.alloc (.cells #[.int .i64 2, .int .i64 (f : Int), .int .i64 (n : Int), .string ⟨#[]⟩] 132)).heap.size := by simp
        obtain ⟨V8, hV8⟩ : ∃ Y, V6.alloc (.cells #[.int .i64 2, .int .i64 (f : Int), .int .i64 (n : Int), .string ⟨#[]⟩] 132) = Y := ⟨_, rfl⟩
        rw [hV8] at hnew hAV8 hbV8 hs8 ⊢
        have hown6 := own_far hown6 hAV8
        refine anyP_one (k := 9) (by kernel_rfl) (by decide) rfl rfl hbV8 ?_
        refine wp_append_reads V8 (.tmp 95) (.tmp 97) 59 rfl X.heap.size 132 i0 _ 4 40 Try.underlying59 hi0 hz0 hz1 hz2 rfl (by omega) g6 k c6 (chgCells S.loose) (by simp [Act.eval]) hown6 (.slice (some ⟨V6.heap.size, 0, none⟩) 1 1) 1 (#[.int .i64 2, .int .i64 (f : Int), .int .i64 (n : Int), .string ⟨#[]⟩]).toList (by simp [Act.eval]) (Reads.own hnew) rfl (by simp [Value.oneCell']) (by unfold maxLen; omega) (by omega) hbV8.size ?_
        intro g9 c9 V9 hown9 hgr9 hat9
        have hb9 := grown_bel hbV8 hown6 hgr9
        have qq := cells_at ((hb9.block r hrX).trans HBOX.out) 33 (.slice la k lc) (by have := HX9.out X (Below.refl _ _); rw [cell_of_row X r 33 _ _ _ HBOX.out] at this; exact this)
        have qf := cells_free ((hb9.block r hrX).trans HBOX.out) 33
        refine anyP_leaf hb9 (by kernel_rfl) ?_
        simp only [List.drop_succ_cons, List.drop_zero]
        have hfin := rchange_fin (S1 := { S with now := fs2, left := Dk.less S.left }) (S2 := { S with now := fs2, loose := S.loose ++ [(.cut f n)], left := Dk.less S.left }) (c := (.cut f n)) HONX.out HGR.out (fun k hk => by have := HGLT.out k hk; have := HBCW.out; omega) HBOX.out hb9 (by show V9.ownsRow X.heap.size 132 4 (.slice (some ⟨g9, 0, none⟩) (S.loose.length + 1) c9) (S.loose.length + 1) _; rw [HK.out]; exact hown9) hnl3 HOKS.out.sureL rfl HOK2.out
        have HFIN := Lib.hid hfin
        clear hfin hown9 hgr9 hat9 hb9
        go_wp2_with fail
        go_ret
        rw [HCH.out, ← HK.out]
        refine ⟨rfl, ?_⟩
        rw [HFS.out]
        exact HFIN.out
      · refine wpP_step rfl (fun K hK => ?_)
        go_simp
        refine hK _ _ ?_
        clear hK K
        have hnew := own_lit2 V1 #[.int .i64 2, .int .i64 (f : Int), .int .i64 (n : Int), .string ⟨#[]⟩] 132 V1.heap.size 1 4 0 rfl rfl (by decide) (Nat.zero_le _)
        have hAV8 := bel_alloc V1 (.cells #[.int .i64 2, .int .i64 (f : Int), .int .i64 (n : Int), .string ⟨#[]⟩] 132)
        have hbV8 := bel_trans hbV1 hAV8
        have hs8 : V1.heap.size < (V1.alloc (.cells #[.int .i64 2, .int .i64 (f : Int), .int .i64 (n : Int), .string ⟨#[]⟩] 132)).heap.size := by simp
        obtain ⟨V8, hV8⟩ : ∃ Y, V1.alloc (.cells #[.int .i64 2, .int .i64 (f : Int), .int .i64 (n : Int), .string ⟨#[]⟩] 132) = Y := ⟨_, rfl⟩
        rw [hV8] at hnew hAV8 hbV8 hs8 ⊢
        have hown0 := own_far hown0 hAV8
        refine anyP_one (k := 6) (by kernel_rfl) (by decide) rfl rfl hbV8 ?_
        refine wp_append_reads V8 (.tmp 90) (.tmp 94) 59 rfl X.heap.size 132 i0 _ 4 40 Try.underlying59 hi0 hz0 hz1 hz2 rfl (by omega) V.heap.size 0 0 [] (by rfl) hown0 (.slice la k lc) k (chgCells S.loose) (by rfl) (HROW.out.below hbV8) (by rw [chgCells_len, HK.out]) (chgCells_one S.loose) (by unfold maxLen; omega) (by omega) hbV8.size ?_
        intro g6 c6 V6 hown6 hgr6 hat6
        rw [Nat.zero_add, List.nil_append] at hown6
        have hbV6 := grown_bel hbV8 hown0 hgr6
        have hnew := own_kept hnew (w' := V6) (fun g hg => by simp only [Value.ownBlock, Option.some.injEq] at hg; subst hg; exact hgr6.block _ hs8 (fun e => by simp only [Option.some.injEq] at e; omega))
        refine anyP_one (k := 9) (by kernel_rfl) (by decide) rfl rfl hbV6 ?_
        refine wp_append_reads V6 (.tmp 95) (.tmp 97) 59 rfl X.heap.size 132 i0 _ 4 40 Try.underlying59 hi0 hz0 hz1 hz2 rfl (by omega) g6 k c6 (chgCells S.loose) (by simp [Act.eval, Act.put]) hown6 (.slice (some ⟨V1.heap.size, 0, none⟩) 1 1) 1 (#[.int .i64 2, .int .i64 (f : Int), .int .i64 (n : Int), .string ⟨#[]⟩]).toList (by simp [Act.eval, Act.put]) (Reads.own hnew) rfl (by simp [Value.oneCell']) (by unfold maxLen; omega) (by omega) hbV6.size ?_
        intro g9 c9 V9 hown9 hgr9 hat9
        have hb9 := grown_bel hbV6 hown6 hgr9
        have qq := cells_at ((hb9.block r hrX).trans HBOX.out) 33 (.slice la k lc) (by have := HX9.out X (Below.refl _ _); rw [cell_of_row X r 33 _ _ _ HBOX.out] at this; exact this)
        have qf := cells_free ((hb9.block r hrX).trans HBOX.out) 33
        refine anyP_leaf hb9 (by kernel_rfl) ?_
        simp only [List.drop_succ_cons, List.drop_zero]
        have hfin := rchange_fin (S1 := { S with now := fs2, left := Dk.less S.left }) (S2 := { S with now := fs2, loose := S.loose ++ [(.cut f n)], left := Dk.less S.left }) (c := (.cut f n)) HONX.out HGR.out (fun k hk => by have := HGLT.out k hk; have := HBCW.out; omega) HBOX.out hb9 (by show V9.ownsRow X.heap.size 132 4 (.slice (some ⟨g9, 0, none⟩) (S.loose.length + 1) c9) (S.loose.length + 1) _; rw [HK.out]; exact hown9) hnl3 HOKS.out.sureL rfl HOK2.out
        have HFIN := Lib.hid hfin
        clear hfin hown9 hgr9 hat9 hb9
        go_wp2_with fail
        go_ret
        rw [HCH.out, ← HK.out]
        refine ⟨rfl, ?_⟩
        rw [HFS.out]
        exact HFIN.out
    · refine wpP_step rfl (fun K hK => ?_)
      go_simp
      refine hK _ _ ?_
      clear hK K
      have hnew := own_lit2 V #[.int .i64 2, .int .i64 (f : Int), .int .i64 (n : Int), .string ⟨#[]⟩] 132 V.heap.size 1 4 0 rfl rfl (by decide) (Nat.zero_le _)
      have hAV8 := bel_alloc V (.cells #[.int .i64 2, .int .i64 (f : Int), .int .i64 (n : Int), .string ⟨#[]⟩] 132)
      have hbV8 := bel_trans hbV hAV8
      have hs8 : V.heap.size < (V.alloc (.cells #[.int .i64 2, .int .i64 (f : Int), .int .i64 (n : Int), .string ⟨#[]⟩] 132)).heap.size := by simp
      obtain ⟨V8, hV8⟩ : ∃ Y, V.alloc (.cells #[.int .i64 2, .int .i64 (f : Int), .int .i64 (n : Int), .string ⟨#[]⟩] 132) = Y := ⟨_, rfl⟩
      rw [hV8] at hnew hAV8 hbV8 hs8 ⊢
      refine anyP_one (k := 1) (by kernel_rfl) (by decide) rfl rfl hbV8 ?_
      refine wpP_step rfl (fun K hK => ?_)
      go_simp
      refine hK _ _ ?_
      clear hK K
      have hown0 := own_lit2 V8 #[] 132 V8.heap.size 0 4 X.heap.size rfl rfl (by decide) hbV8.size
      have hbV1 := bel_trans hbV8 (bel_alloc V8 (.cells #[] 132))
      have hs0 : V8.heap.size < (V8.alloc (.cells #[] 132)).heap.size := by simp
      obtain ⟨V1, hV1⟩ : ∃ Y, V8.alloc (.cells #[] 132) = Y := ⟨_, rfl⟩
      rw [hV1] at hown0 hbV1 hs0 ⊢
      have hnew := own_far hnew (w' := V1) (by rw [← hV1]; exact bel_alloc _ _)
      refine anyP_one (k := 6) (by kernel_rfl) (by decide) rfl rfl hbV1 ?_
      refine wp_append_reads V1 (.tmp 90) (.tmp 94) 59 rfl X.heap.size 132 i0 _ 4 40 Try.underlying59 hi0 hz0 hz1 hz2 rfl (by omega) V8.heap.size 0 0 [] (by rfl) hown0 (.slice la k lc) k (chgCells S.loose) (by rfl) (HROW.out.below hbV1) (by rw [chgCells_len, HK.out]) (chgCells_one S.loose) (by unfold maxLen; omega) (by omega) hbV1.size ?_
      intro g6 c6 V6 hown6 hgr6 hat6
      rw [Nat.zero_add, List.nil_append] at hown6
      have hbV6 := grown_bel hbV1 hown0 hgr6
      have hnew := own_kept hnew (w' := V6) (fun g hg => by simp only [Value.ownBlock, Option.some.injEq] at hg; subst hg; exact hgr6.block _ (by omega) (fun e => by simp only [Option.some.injEq] at e; omega))
      refine anyP_one (k := 9) (by kernel_rfl) (by decide) rfl rfl hbV6 ?_
      refine wp_append_reads V6 (.tmp 95) (.tmp 97) 59 rfl X.heap.size 132 i0 _ 4 40 Try.underlying59 hi0 hz0 hz1 hz2 rfl (by omega) g6 k c6 (chgCells S.loose) (by simp [Act.eval, Act.put]) hown6 (.slice (some ⟨V.heap.size, 0, none⟩) 1 1) 1 (#[.int .i64 2, .int .i64 (f : Int), .int .i64 (n : Int), .string ⟨#[]⟩]).toList (by simp [Act.eval, Act.put]) (Reads.own hnew) rfl (by simp [Value.oneCell']) (by unfold maxLen; omega) (by omega) hbV6.size ?_
      intro g9 c9 V9 hown9 hgr9 hat9
      have hb9 := grown_bel hbV6 hown6 hgr9
      have qq := cells_at ((hb9.block r hrX).trans HBOX.out) 33 (.slice la k lc) (by have := HX9.out X (Below.refl _ _); rw [cell_of_row X r 33 _ _ _ HBOX.out] at this; exact this)
      have qf := cells_free ((hb9.block r hrX).trans HBOX.out) 33
      refine anyP_leaf hb9 (by kernel_rfl) ?_
      simp only [List.drop_succ_cons, List.drop_zero]
      have hfin := rchange_fin (S1 := { S with now := fs2, left := Dk.less S.left }) (S2 := { S with now := fs2, loose := S.loose ++ [(.cut f n)], left := Dk.less S.left }) (c := (.cut f n)) HONX.out HGR.out (fun k hk => by have := HGLT.out k hk; have := HBCW.out; omega) HBOX.out hb9 (by show V9.ownsRow X.heap.size 132 4 (.slice (some ⟨g9, 0, none⟩) (S.loose.length + 1) c9) (S.loose.length + 1) _; rw [HK.out]; exact hown9) hnl3 HOKS.out.sureL rfl HOK2.out
      have HFIN := Lib.hid hfin
      clear hfin hown9 hgr9 hat9 hb9
      go_wp2_with fail
      go_ret
      rw [HCH.out, ← HK.out]
      refine ⟨rfl, ?_⟩
      rw [HFS.out]
      exact HFIN.out

set_option maxHeartbeats 8000000 in
set_option maxRecDepth 100000 in
theorem rchange_mov (w : World) (r : Nat) (S : Dk.St) (G : Nat → Prop) (h : RDAt w r S G) (a b : Nat) (ha : a < 16) (hb' : b < 16) (hab : a ≠ b) (hoff : S.off = false)  (hm : S.loose.length ≤ 1000000000) :
    Calls Try.prog 93 #[ptr r 0, .agg #[.int .i64 3, .int .i64 (a : Int), .int .i64 (b : Int), .string ⟨#[]⟩]] w fun e w' => e = .returned (.int .i64 (Dk.change S (.mov a b)).1) ∧ RTurned w w' r (Dk.change S (.mov a b)).2 G := by
  obtain ⟨i0, hi0, hz0, hz1, hz2⟩ := info_parts infoCh
  have hbA := bel_alloc w (.cells #[.int .i64 3, .int .i64 (a : Int), .int .i64 (b : Int), .string ⟨#[]⟩] 132)
  have hrd := h.below hbA
  have hbx := heap_alloc_new w (.cells #[.int .i64 3, .int .i64 (a : Int), .int .i64 (b : Int), .string ⟨#[]⟩] 132)
  obtain ⟨bc, hbc⟩ : ∃ b, w.heap.size = b := ⟨_, rfl⟩
  have hGlt : ∀ k, G k → k < bc := by rw [← hbc]; exact h.lt
  have hok2 : Dk.Ok (Dk.change S (.mov a b)).2 := Dk.change_ok h.ok (.mov a b) ⟨ha, hb', hab⟩ (Nat.le_trans (Dk.total_mov a b S.now (by rw [h.ok.nowL]; exact ha) (by rw [h.ok.nowL]; exact hb') hab) h.ok.total)
  obtain ⟨W1, hW1⟩ : ∃ W, w.alloc (.cells #[.int .i64 3, .int .i64 (a : Int), .int .i64 (b : Int), .string ⟨#[]⟩] 132) = W := ⟨_, rfl⟩
  rw [hW1] at hbA hrd hbx
  rw [hbc] at hbx
  have x0 := cells_at hbx 0 _ rfl
  have x1 := cells_at hbx 1 _ rfl
  have x2 := cells_at hbx 2 _ rfl
  have x3 := cells_at hbx 3 _ rfl
  simp only [List.getElem_toArray, List.getElem_cons_zero, List.getElem_cons_succ] at x0 x1 x2 x3
  have hbcl : bc < W1.heap.size := (Array.getElem?_eq_some_iff.1 hbx).1
  obtain ⟨lo, hc, hl, hg⟩ := hrd.cells
  obtain ⟨c33, c34, -⟩ := diskC_rest h.ok lo
  have c34 := cells_at hc 34 _ c34
  rw [hoff] at c34
  have HBA := Lib.hid hbA
  have HBCW := Lib.hid hbc
  have HRD := Lib.hid hrd
  have HBX := Lib.hid hbx
  have HOK2 := Lib.hid hok2
  have HGLT := Lib.hid hGlt
  have HNL := Lib.hid h.ok.nowL
  have HOKS := Lib.hid h.ok
  have HGR := Lib.hid h.mem

  clear h hbA hrd hbx hc hl hg hok2 hGlt c33
  have d1 : decide ((a : Int) < 0) = false := by simp
  have d2 : decide ((15 : Int) < (a : Int)) = false := by simp; omega
  have d3 : decide ((b : Int) < 0) = false := by simp
  have d4 : decide ((15 : Int) < (b : Int)) = false := by simp; omega
  have d5 : ((b : Int) == (a : Int)) = false := by simp; omega
  unfold ptr
  go_enter Try.func93, Try.ntmps93
  go_upto_region 1 with fail
  clear hW1 hbc
  go_wp2_with fail
  refine wp_region_free [0, 1, 2, 3, 4, 5, 6, 7, 8, 9] 10 (fun W' => Below W1.heap.size W1 W') (by kernel_rfl) (by kernel_rfl) ?_
  change wpYields _ _ _ _ [_, _, _, _, _, _, _, _, _, _] _
  iterate 10 (refine yields_step (fun K hK => ?_); apply Exists.intro; apply And.intro; (first | (apply yields_at rfl; rintro W' hb; have z0 := (hb.cell (p := ⟨bc, 0, none⟩) hbcl).trans x0; go_simp; first | done | rfl) | exact (fun _ _ => .inr ⟨by rfl, rfl⟩)); go_simp; refine hK _ ?_; clear hK K)
  refine yields_nil ?_
  refine anyP_leaf (bel_drew W1) (by kernel_rfl) ?_
  simp only [List.drop_succ_cons, List.drop_zero]
  go_wp2_with fail
  generalize hWa : W1.drew = Wa
  have x0 : Wa.cell? ⟨bc, 0, none⟩ = some (.int .i64 3) := by rw [← hWa]; exact x0
  have x1 : Wa.cell? ⟨bc, 1, none⟩ = some (.int .i64 (a : Int)) := by rw [← hWa]; exact x1
  have x2 : Wa.cell? ⟨bc, 2, none⟩ = some (.int .i64 (b : Int)) := by rw [← hWa]; exact x2

  have hba : Below W1.heap.size W1 Wa := by rw [← hWa]; exact bel_drew _
  have HBAA := Lib.hid hba
  have hbca : bc < Wa.heap.size := by have := hba.size; omega
  clear hWa hba
  refine wp_region_free [0, 1, 2, 3, 4, 5, 6, 7, 8, 9, 10, 11, 12, 13, 14, 15, 16, 17, 18, 19] 20 (fun W' => Below Wa.heap.size Wa W') (by kernel_rfl) (by kernel_rfl) ?_
  change wpYields _ _ _ _ [_, _, _, _, _, _, _, _, _, _, _, _, _, _, _, _, _, _, _, _] _
  iterate 20 (refine yields_step (fun K hK => ?_); apply Exists.intro; apply And.intro; (first | (apply yields_at rfl; rintro W' hb; have z0 := (hb.cell (p := ⟨bc, 0, none⟩) hbca).trans x0; have z1 := (hb.cell (p := ⟨bc, 1, none⟩) hbca).trans x1; have z2 := (hb.cell (p := ⟨bc, 2, none⟩) hbca).trans x2; go_simp; first | done | rfl) | exact (fun _ _ => .inr ⟨by rfl, rfl⟩)); go_simp; refine hK _ ?_; clear hK K)
  refine yields_nil ?_
  refine anyP_leaf (bel_drew Wa) (by kernel_rfl) ?_
  simp only [List.drop_succ_cons, List.drop_zero]
  go_wp2_with fail
  generalize hW2 : Wa.drew = W2
  have hb2 : Below W1.heap.size W1 W2 := by rw [← hW2]; exact bel_trans HBAA.out (bel_drew _)
  refine (rop_any W2 r S G (HRD.out.below hb2)).mono ?_
  rintro e W3 ⟨rfl, ht⟩
  obtain ⟨G1, ho1, hD1, hg1⟩ := ht
  have hbx3 : W3.heap[bc]? = some (.cells #[.int .i64 3, .int .i64 (a : Int), .int .i64 (b : Int), .string ⟨#[]⟩] 132) := by
    rw [ho1.block bc (by have := hb2.size; omega) (fun e => by have := HGLT.out bc e; omega), hb2.block bc hbcl]
    exact HBX.out
  have HBX3 := Lib.hid hbx3
  have hon3 : Only G w W3 := (Only.below (bel_trans HBA.out hb2)).trans ho1
  have HON3 := Lib.hid hon3
  have HB22 := Lib.hid hb2
  have HD1 := Lib.hid hD1
  have HG1 := Lib.hid hg1
  by_cases h0 : S.left = 0
  · have hop : Dk.op S = (50, { S with off := true }) := if_pos h0
    have hch : Dk.change S (.mov a b) = (50, { S with off := true }) := if_pos h0
    rw [hop] at HD1 ⊢
    have HCH := Lib.hid hch
    clear hop hch h0 hb2 hW2 ho1 hD1 hg1 hbx3 hon3
    go_wp2_with fail
    go_ret
    rw [HCH.out]
    refine ⟨rfl, G1, HON3.out, HD1.out, fun k hk => ?_⟩
    have hs := HBA.out.size
    rcases HG1.out k hk with h | h
    · exact .inl h
    · exact .inr (by have := HB22.out.size; omega)
  · have hop : Dk.op S = (0, { S with left := Dk.less S.left }) := by
      unfold Dk.op
      rw [if_neg h0]
      unfold Dk.less
      split <;> rfl
    have hch : Dk.change S (.mov a b) = (0, { S with now := Dk.Ch.run (.mov a b) S.now, loose := S.loose ++ [(.mov a b)], left := Dk.less S.left }) := if_neg h0
    rw [hop] at HD1 ⊢
    rw [hch] at HOK2
    have HCH := Lib.hid hch
    clear hop hch h0 hb2 hW2 ho1 hD1 hg1 hbx3 hon3 HRD HBAA
    obtain ⟨lo1, hc1, hl1, hg1⟩ := HD1.out.cells
    have hrl := (Array.getElem?_eq_some_iff.1 hc1).1
    have hbl3 := (Array.getElem?_eq_some_iff.1 HBX3.out).1
    have HC1 := Lib.hid hc1
    have HL1 := Lib.hid hl1
    have HLG := Lib.hid hg1
    have hin := Lib.hid (rinfo (strs S.now) (by rw [strs_len]; exact HNL.out))
    have HRG := Lib.hid (fun (W' : World) (hb : Below W3.heap.size W3 W') => rrange_now HD1.out.ok ((hb.block r hrl).trans HC1.out))
    obtain ⟨fs2, hfs2⟩ : ∃ x, Dk.Ch.run (.mov a b) S.now = x := ⟨_, rfl⟩
    have hl2 : fs2.length = 16 := by rw [← hfs2, Dk.run_len]; exact HNL.out
    have HMD := Lib.hid (show ∀ W, Calls Try.prog 65 #[.agg (strs S.now).toArray, .agg #[.int .i64 3, .int .i64 (a : Int), .int .i64 (b : Int), .string ⟨#[]⟩], .int .i64 0] W fun e w' => e = .returned (.agg (strs fs2).toArray) ∧ Below W.heap.size W w' from by rw [← hfs2]; exact (fun W => made_movc W S.now HNL.out a b ha hb' _))
    rw [hfs2] at HOK2
    have HFS := Lib.hid hfs2
    have HL2 := Lib.hid hl2
    clear hc1 hl1 hg1 hfs2 hl2
    go_wp2_with fail
    refine wp_region_free [0, 1, 2, 3, 4, 5, 6, 7, 8] 10 (fun W' => Below W3.heap.size W3 W') (by kernel_rfl) (by kernel_rfl) ?_
    change wpYields _ _ _ _ [_, _, _, _, _, _, _, _, _] _
    iterate 9 (refine yields_step (fun K hK => ?_); apply Exists.intro; apply And.intro; (first | exact yields_load_mid rfl 58 _ rfl r 1 rfl (strs S.now) _ HRG.out Try.underlying58 rfl hin.out | (apply yields_at rfl; rintro W' hb; have z := (hb.block bc hbl3).trans HBX3.out; have z0 := cells_at z 0 _ rfl; have z1 := cells_at z 1 _ rfl; have z2 := cells_at z 2 _ rfl; have z3 := cells_at z 3 _ rfl; simp only [List.getElem_toArray, List.getElem_cons_zero, List.getElem_cons_succ] at z0 z1 z2 z3; go_simp; first | done | rfl)); go_simp; refine hK _ ?_; clear hK K)
    refine yields_nil ?_
    refine anyP_one (k := 9) (by kernel_rfl) (by decide) rfl rfl (bel_drew W3) ?_
    refine wpP_step rfl (fun K hK => ?_)
    go_simp
    go_at_call 65
    refine (HMD.out _).mono ?_
    rintro e W5 ⟨rfl, hb5⟩
    have hb5 : Below W3.heap.size W3 W5 := bel_trans (bel_drew W3) hb5
    refine hK _ _ ?_
    clear hK K
    refine anyP_leaf hb5 (by kernel_rfl) ?_
    simp only [List.drop_succ_cons, List.drop_zero]
    have hc5 := (hb5.block r hrl).trans HC1.out
    have hth := Lib.hid (there_of hc5 1 (strs fs2).toArray.size (by have hn : (diskCells { S with left := Dk.less S.left } lo1).size = 36 := (by unfold diskCells; rw [List.size_toArray, diskL_len HD1.out.ok]); rw [hn, List.size_toArray, strs_len, HL2.out]; omega))
    have hone := Lib.hid (strs_one fs2)
    have hin' := Lib.hid (rinfo' (strs fs2) (by rw [strs_len]; exact HL2.out))
    obtain ⟨X, hX⟩ : ∃ X, W5.setCells r 1 (strs fs2).toArray.toList = X := ⟨_, rfl⟩
    have hcX : X.heap[r]? = some (.cells (diskCells { S with now := fs2, left := Dk.less S.left } lo1) 61) := by
      rw [← hX, heap_setCells _ _ _ _ hc5, puts_now (S := { S with left := Dk.less S.left }) HNL.out lo1 fs2 HL2.out]
      rfl
    have hneX : ∀ k, k ≠ r → k < W5.heap.size → X.heap[k]? = W5.heap[k]? := fun k hk hlt => by
      rw [← hX]
      exact (Only.setCells (S := fun k => k = r) r rfl (strs fs2).toArray.toList 1 W5).block k hlt hk
    have honX : Only G w X := by
      rw [← hX]
      exact (HON3.out.trans (Only.below hb5)).trans (Only.setCells (S := G) r HGR.out _ _ _)
    have hsX : W5.heap.size ≤ X.heap.size := by
      rw [← hX]
      exact (Only.setCells (S := fun k => k = r) r rfl (strs fs2).toArray.toList 1 W5).size
    have hrb : r < bc := HGLT.out r HGR.out
    have hbX : X.heap[bc]? = some (.cells #[.int .i64 3, .int .i64 (a : Int), .int .i64 (b : Int), .string ⟨#[]⟩] 132) := by
      rw [hneX bc (by omega) (by have := hb5.size; omega), hb5.block bc hbl3]
      exact HBX3.out
    have hlX : X.ownsRow 0 132 4 lo1 S.loose.length (chgCells S.loose) := by
      refine own_kept HL1.out (fun g hg => ?_)
      have hgl : g < W3.heap.size := HD1.out.lt g (HLG.out g hg)
      have hgr : g ≠ r := by
        intro e
        rcases HL1.out.2 with hh | ⟨g', cap, cur, hv, _, hcc, _⟩
        · rw [hh.1] at hg; cases hg
        · rw [hv] at hg
          simp only [Value.ownBlock, Option.some.injEq] at hg
          rw [hg, e, HC1.out] at hcc
          simp only [Option.some.injEq, Obj.cells.injEq] at hcc
          exact absurd hcc.2.1 (by decide)
      rw [hneX g hgr (by have := hb5.size; omega)]
      exact hb5.block g hgl
    have HXX := Lib.hid hX
    go_wp2_with (refine wpList_store_mid rfl 58 _ _ rfl r 1 (strs fs2).toArray rfl rfl hth.out hin'.out hone.out ?_; rw [HXX.out])
    obtain ⟨la, lc, rfl⟩ := (Reads.own hlX).shape
    obtain ⟨k, hk⟩ : ∃ k, S.loose.length = k := ⟨_, rfl⟩
    have hok3 : Dk.Ok { S with now := fs2, loose := S.loose ++ [(.mov a b)], left := Dk.less S.left } := HOK2.out
    have p33 := cells_at hcX 33 (.slice la k lc) (by show (diskL { S with now := fs2, loose := S.loose ++ [(.mov a b)], left := Dk.less S.left } _).toArray[33]? = _; rw [← hk]; simpa using diskL_rest hok3 (.slice la S.loose.length lc) 0)
    have hrX := (Array.getElem?_eq_some_iff.1 hcX).1
    have hbcX := (Array.getElem?_eq_some_iff.1 hbX).1
    have HBOX := Lib.hid hcX
    have HROW := Lib.hid (Reads.own hlX)
    have HBXX := Lib.hid hbX
    have HONX := Lib.hid honX
    have HK := Lib.hid hk
    rw [hk] at HROW hm
    have HX9 := Lib.hid (fun (W' : World) (hb : Below X.heap.size X W') => (hb.cell (p := ⟨r, 33, none⟩) hrX).trans p33)
    clear hX hneX honX hcX hbX hlX hb5 hc5 hsX HXX hth hone hin' HRG hin hbl3 hrl hok3 p33 hk
    refine wp_region_free [0, 2, 3, 4, 5, 7] 10 (fun W' => Below X.heap.size X W') (by kernel_rfl) (by kernel_rfl) ?_
    change wpYields _ _ _ _ [_, _, _, _, _, _] _
    iterate 6 (refine yields_step (fun K hK => ?_); apply Exists.intro; apply And.intro; (apply yields_at rfl; rintro W' hb; have zz := HX9.out W' hb; have z := (hb.block bc hbcX).trans HBXX.out; have z0 := cells_at z 0 _ rfl; have z1 := cells_at z 1 _ rfl; have z2 := cells_at z 2 _ rfl; have z3 := cells_at z 3 _ rfl; simp only [List.getElem_toArray, List.getElem_cons_zero, List.getElem_cons_succ] at z0 z1 z2 z3; go_simp; first | done | rfl); go_simp; refine hK _ ?_; clear hK K)
    refine yields_nil ?_
    obtain ⟨V, hV⟩ : ∃ V, X.drew = V := ⟨_, rfl⟩
    have hbV : Below X.heap.size X V := by rw [← hV]; exact bel_drew X
    rw [hV]
    have hnl3 : fs2.length = 16 := HL2.out
    refine anyP_two (k := 1) (k' := 8) (by kernel_rfl) (by decide) (by decide) rfl rfl rfl rfl hbV ?_ ?_
    · refine wpP_step rfl (fun K hK => ?_)
      go_simp
      refine hK _ _ ?_
      clear hK K
      have hown0 := own_lit2 V #[] 132 V.heap.size 0 4 X.heap.size rfl rfl (by decide) hbV.size
      have hbV1 := bel_trans hbV (bel_alloc V (.cells #[] 132))
      have hs0 : V.heap.size < (V.alloc (.cells #[] 132)).heap.size := by simp
      obtain ⟨V1, hV1⟩ : ∃ Y, V.alloc (.cells #[] 132) = Y := ⟨_, rfl⟩
      rw [hV1] at hown0 hbV1 hs0 ⊢
      refine anyP_two (k := 6) (k' := 8) (by kernel_rfl) (by decide) (by decide) rfl rfl rfl rfl hbV1 ?_ ?_
      · refine wp_append_reads V1 (.tmp 90) (.tmp 94) 59 rfl X.heap.size 132 i0 _ 4 40 Try.underlying59 hi0 hz0 hz1 hz2 rfl (by omega) V.heap.size 0 0 [] (by rfl) hown0 (.slice la k lc) k (chgCells S.loose) (by rfl) (HROW.out.below hbV1) (by rw [chgCells_len, HK.out]) (chgCells_one S.loose) (by unfold maxLen; omega) (by omega) hbV1.size ?_
        intro g6 c6 V6 hown6 hgr6 hat6
        rw [Nat.zero_add, List.nil_append] at hown6
        have hbV6 := grown_bel hbV1 hown0 hgr6
        refine anyP_one (k := 8) (by kernel_rfl) (by decide) rfl rfl hbV6 ?_
        refine wpP_step rfl (fun K hK => ?_)
        go_simp
        refine hK _ _ ?_
        clear hK K
        have hnew := own_lit2 V6 #[.int .i64 3, .int .i64 (a : Int), .int .i64 (b : Int), .string ⟨#[]⟩] 132 V6.heap.size 1 4 0 rfl rfl (by decide) (Nat.zero_le _)
        have hAV8 := bel_alloc V6 (.cells #[.int .i64 3, .int .i64 (a : Int), .int .i64 (b : Int), .string ⟨#[]⟩] 132)
        have hbV8 := bel_trans hbV6 hAV8
        have hs8 : V6.heap.size < (V6.alloc (.cells #[.int .i64 3, .int .i64 (a : Int), .int .i64 (b : Int), .string ⟨#[]⟩] 132)).heap.size := by simp
        obtain ⟨V8, hV8⟩ : ∃ Y, V6.alloc (.cells #[.int .i64 3, .int .i64 (a : Int), .int .i64 (b : Int), .string ⟨#[]⟩] 132) = Y := ⟨_, rfl⟩
        rw [hV8] at hnew hAV8 hbV8 hs8 ⊢
        have hown6 := own_far hown6 hAV8
        refine anyP_one (k := 9) (by kernel_rfl) (by decide) rfl rfl hbV8 ?_
        refine wp_append_reads V8 (.tmp 95) (.tmp 97) 59 rfl X.heap.size 132 i0 _ 4 40 Try.underlying59 hi0 hz0 hz1 hz2 rfl (by omega) g6 k c6 (chgCells S.loose) (by simp [Act.eval]) hown6 (.slice (some ⟨V6.heap.size, 0, none⟩) 1 1) 1 (#[.int .i64 3, .int .i64 (a : Int), .int .i64 (b : Int), .string ⟨#[]⟩]).toList (by simp [Act.eval]) (Reads.own hnew) rfl (by simp [Value.oneCell']) (by unfold maxLen; omega) (by omega) hbV8.size ?_
        intro g9 c9 V9 hown9 hgr9 hat9
        have hb9 := grown_bel hbV8 hown6 hgr9
        have qq := cells_at ((hb9.block r hrX).trans HBOX.out) 33 (.slice la k lc) (by have := HX9.out X (Below.refl _ _); rw [cell_of_row X r 33 _ _ _ HBOX.out] at this; exact this)
        have qf := cells_free ((hb9.block r hrX).trans HBOX.out) 33
        refine anyP_leaf hb9 (by kernel_rfl) ?_
        simp only [List.drop_succ_cons, List.drop_zero]
        have hfin := rchange_fin (S1 := { S with now := fs2, left := Dk.less S.left }) (S2 := { S with now := fs2, loose := S.loose ++ [(.mov a b)], left := Dk.less S.left }) (c := (.mov a b)) HONX.out HGR.out (fun k hk => by have := HGLT.out k hk; have := HBCW.out; omega) HBOX.out hb9 (by show V9.ownsRow X.heap.size 132 4 (.slice (some ⟨g9, 0, none⟩) (S.loose.length + 1) c9) (S.loose.length + 1) _; rw [HK.out]; exact hown9) hnl3 HOKS.out.sureL rfl HOK2.out
        have HFIN := Lib.hid hfin
        clear hfin hown9 hgr9 hat9 hb9
        go_wp2_with fail
        go_ret
        rw [HCH.out, ← HK.out]
        refine ⟨rfl, ?_⟩
        rw [HFS.out]
        exact HFIN.out
      · refine wpP_step rfl (fun K hK => ?_)
        go_simp
        refine hK _ _ ?_
        clear hK K
        have hnew := own_lit2 V1 #[.int .i64 3, .int .i64 (a : Int), .int .i64 (b : Int), .string ⟨#[]⟩] 132 V1.heap.size 1 4 0 rfl rfl (by decide) (Nat.zero_le _)
        have hAV8 := bel_alloc V1 (.cells #[.int .i64 3, .int .i64 (a : Int), .int .i64 (b : Int), .string ⟨#[]⟩] 132)
        have hbV8 := bel_trans hbV1 hAV8
        have hs8 : V1.heap.size < (V1.alloc (.cells #[.int .i64 3, .int .i64 (a : Int), .int .i64 (b : Int), .string ⟨#[]⟩] 132)).heap.size := by simp
        obtain ⟨V8, hV8⟩ : ∃ Y, V1.alloc (.cells #[.int .i64 3, .int .i64 (a : Int), .int .i64 (b : Int), .string ⟨#[]⟩] 132) = Y := ⟨_, rfl⟩
        rw [hV8] at hnew hAV8 hbV8 hs8 ⊢
        have hown0 := own_far hown0 hAV8
        refine anyP_one (k := 6) (by kernel_rfl) (by decide) rfl rfl hbV8 ?_
        refine wp_append_reads V8 (.tmp 90) (.tmp 94) 59 rfl X.heap.size 132 i0 _ 4 40 Try.underlying59 hi0 hz0 hz1 hz2 rfl (by omega) V.heap.size 0 0 [] (by rfl) hown0 (.slice la k lc) k (chgCells S.loose) (by rfl) (HROW.out.below hbV8) (by rw [chgCells_len, HK.out]) (chgCells_one S.loose) (by unfold maxLen; omega) (by omega) hbV8.size ?_
        intro g6 c6 V6 hown6 hgr6 hat6
        rw [Nat.zero_add, List.nil_append] at hown6
        have hbV6 := grown_bel hbV8 hown0 hgr6
        have hnew := own_kept hnew (w' := V6) (fun g hg => by simp only [Value.ownBlock, Option.some.injEq] at hg; subst hg; exact hgr6.block _ hs8 (fun e => by simp only [Option.some.injEq] at e; omega))
        refine anyP_one (k := 9) (by kernel_rfl) (by decide) rfl rfl hbV6 ?_
        refine wp_append_reads V6 (.tmp 95) (.tmp 97) 59 rfl X.heap.size 132 i0 _ 4 40 Try.underlying59 hi0 hz0 hz1 hz2 rfl (by omega) g6 k c6 (chgCells S.loose) (by simp [Act.eval, Act.put]) hown6 (.slice (some ⟨V1.heap.size, 0, none⟩) 1 1) 1 (#[.int .i64 3, .int .i64 (a : Int), .int .i64 (b : Int), .string ⟨#[]⟩]).toList (by simp [Act.eval, Act.put]) (Reads.own hnew) rfl (by simp [Value.oneCell']) (by unfold maxLen; omega) (by omega) hbV6.size ?_
        intro g9 c9 V9 hown9 hgr9 hat9
        have hb9 := grown_bel hbV6 hown6 hgr9
        have qq := cells_at ((hb9.block r hrX).trans HBOX.out) 33 (.slice la k lc) (by have := HX9.out X (Below.refl _ _); rw [cell_of_row X r 33 _ _ _ HBOX.out] at this; exact this)
        have qf := cells_free ((hb9.block r hrX).trans HBOX.out) 33
        refine anyP_leaf hb9 (by kernel_rfl) ?_
        simp only [List.drop_succ_cons, List.drop_zero]
        have hfin := rchange_fin (S1 := { S with now := fs2, left := Dk.less S.left }) (S2 := { S with now := fs2, loose := S.loose ++ [(.mov a b)], left := Dk.less S.left }) (c := (.mov a b)) HONX.out HGR.out (fun k hk => by have := HGLT.out k hk; have := HBCW.out; omega) HBOX.out hb9 (by show V9.ownsRow X.heap.size 132 4 (.slice (some ⟨g9, 0, none⟩) (S.loose.length + 1) c9) (S.loose.length + 1) _; rw [HK.out]; exact hown9) hnl3 HOKS.out.sureL rfl HOK2.out
        have HFIN := Lib.hid hfin
        clear hfin hown9 hgr9 hat9 hb9
        go_wp2_with fail
        go_ret
        rw [HCH.out, ← HK.out]
        refine ⟨rfl, ?_⟩
        rw [HFS.out]
        exact HFIN.out
    · refine wpP_step rfl (fun K hK => ?_)
      go_simp
      refine hK _ _ ?_
      clear hK K
      have hnew := own_lit2 V #[.int .i64 3, .int .i64 (a : Int), .int .i64 (b : Int), .string ⟨#[]⟩] 132 V.heap.size 1 4 0 rfl rfl (by decide) (Nat.zero_le _)
      have hAV8 := bel_alloc V (.cells #[.int .i64 3, .int .i64 (a : Int), .int .i64 (b : Int), .string ⟨#[]⟩] 132)
      have hbV8 := bel_trans hbV hAV8
      have hs8 : V.heap.size < (V.alloc (.cells #[.int .i64 3, .int .i64 (a : Int), .int .i64 (b : Int), .string ⟨#[]⟩] 132)).heap.size := by simp
      obtain ⟨V8, hV8⟩ : ∃ Y, V.alloc (.cells #[.int .i64 3, .int .i64 (a : Int), .int .i64 (b : Int), .string ⟨#[]⟩] 132) = Y := ⟨_, rfl⟩
      rw [hV8] at hnew hAV8 hbV8 hs8 ⊢
      refine anyP_one (k := 1) (by kernel_rfl) (by decide) rfl rfl hbV8 ?_
      refine wpP_step rfl (fun K hK => ?_)
      go_simp
      refine hK _ _ ?_
      clear hK K
      have hown0 := own_lit2 V8 #[] 132 V8.heap.size 0 4 X.heap.size rfl rfl (by decide) hbV8.size
      have hbV1 := bel_trans hbV8 (bel_alloc V8 (.cells #[] 132))
      have hs0 : V8.heap.size < (V8.alloc (.cells #[] 132)).heap.size := by simp
      obtain ⟨V1, hV1⟩ : ∃ Y, V8.alloc (.cells #[] 132) = Y := ⟨_, rfl⟩
      rw [hV1] at hown0 hbV1 hs0 ⊢
      have hnew := own_far hnew (w' := V1) (by rw [← hV1]; exact bel_alloc _ _)
      refine anyP_one (k := 6) (by kernel_rfl) (by decide) rfl rfl hbV1 ?_
      refine wp_append_reads V1 (.tmp 90) (.tmp 94) 59 rfl X.heap.size 132 i0 _ 4 40 Try.underlying59 hi0 hz0 hz1 hz2 rfl (by omega) V8.heap.size 0 0 [] (by rfl) hown0 (.slice la k lc) k (chgCells S.loose) (by rfl) (HROW.out.below hbV1) (by rw [chgCells_len, HK.out]) (chgCells_one S.loose) (by unfold maxLen; omega) (by omega) hbV1.size ?_
      intro g6 c6 V6 hown6 hgr6 hat6
      rw [Nat.zero_add, List.nil_append] at hown6
      have hbV6 := grown_bel hbV1 hown0 hgr6
      have hnew := own_kept hnew (w' := V6) (fun g hg => by simp only [Value.ownBlock, Option.some.injEq] at hg; subst hg; exact hgr6.block _ (by omega) (fun e => by simp only [Option.some.injEq] at e; omega))
      refine anyP_one (k := 9) (by kernel_rfl) (by decide) rfl rfl hbV6 ?_
      refine wp_append_reads V6 (.tmp 95) (.tmp 97) 59 rfl X.heap.size 132 i0 _ 4 40 Try.underlying59 hi0 hz0 hz1 hz2 rfl (by omega) g6 k c6 (chgCells S.loose) (by simp [Act.eval, Act.put]) hown6 (.slice (some ⟨V.heap.size, 0, none⟩) 1 1) 1 (#[.int .i64 3, .int .i64 (a : Int), .int .i64 (b : Int), .string ⟨#[]⟩]).toList (by simp [Act.eval, Act.put]) (Reads.own hnew) rfl (by simp [Value.oneCell']) (by unfold maxLen; omega) (by omega) hbV6.size ?_
      intro g9 c9 V9 hown9 hgr9 hat9
      have hb9 := grown_bel hbV6 hown6 hgr9
      have qq := cells_at ((hb9.block r hrX).trans HBOX.out) 33 (.slice la k lc) (by have := HX9.out X (Below.refl _ _); rw [cell_of_row X r 33 _ _ _ HBOX.out] at this; exact this)
      have qf := cells_free ((hb9.block r hrX).trans HBOX.out) 33
      refine anyP_leaf hb9 (by kernel_rfl) ?_
      simp only [List.drop_succ_cons, List.drop_zero]
      have hfin := rchange_fin (S1 := { S with now := fs2, left := Dk.less S.left }) (S2 := { S with now := fs2, loose := S.loose ++ [(.mov a b)], left := Dk.less S.left }) (c := (.mov a b)) HONX.out HGR.out (fun k hk => by have := HGLT.out k hk; have := HBCW.out; omega) HBOX.out hb9 (by show V9.ownsRow X.heap.size 132 4 (.slice (some ⟨g9, 0, none⟩) (S.loose.length + 1) c9) (S.loose.length + 1) _; rw [HK.out]; exact hown9) hnl3 HOKS.out.sureL rfl HOK2.out
      have HFIN := Lib.hid hfin
      clear hfin hown9 hgr9 hat9 hb9
      go_wp2_with fail
      go_ret
      rw [HCH.out, ← HK.out]
      refine ⟨rfl, ?_⟩
      rw [HFS.out]
      exact HFIN.out


end Go.Proofs.Ytllecjhfbojgcaa
