/-
  The reference's Append, Cut, Move walked.
-/
import Derived.Test.YtllecjhfbojgcaaRefChange
import Derived.Deep.CutRange
namespace Go.Proofs.Ytllecjhfbojgcaa
open Go.RowKit
set_option maxRecDepth 20000

theorem rchange_off (w : World) (r : Nat) (S : Dk.St) (G : Nat → Prop) (h : RDAt w r S G) (k f n : Int) (s : ByteArray) (hoff : S.off = true) :
    Calls Try.prog 93 #[ptr r 0, .agg #[.int .i64 k, .int .i64 f, .int .i64 n, .string s]] w fun e w' => e = .returned (.int .i64 50) ∧ Below w.heap.size w w' := by
  have hbA := bel_alloc w (.cells #[.int .i64 k, .int .i64 f, .int .i64 n, .string s] 132)
  obtain ⟨lo, hc, hl, hg⟩ := (h.below hbA).cells
  obtain ⟨-, c34, -⟩ := diskC_rest h.ok lo
  have c34 := cells_at hc 34 _ c34
  rw [hoff] at c34
  obtain ⟨W1, hW1⟩ : ∃ W, w.alloc (.cells #[.int .i64 k, .int .i64 f, .int .i64 n, .string s] 132) = W := ⟨_, rfl⟩
  rw [hW1] at hbA c34
  have HBA := Lib.hid hbA
  clear h hc hl hg hbA hoff
  unfold ptr
  go_enter Try.func93, Try.ntmps93
  go_upto_region 1 with fail
  clear hW1
  go_wp2_with fail
  go_ret
  exact ⟨rfl, HBA.out⟩

theorem rchange_arg (w : World) (r : Nat) (S : Dk.St) (G : Nat → Prop) (h : RDAt w r S G) (k f n : Int) (s : ByteArray) (hoff : S.off = false) (hbad : f < 0 ∨ 15 < f ∨ k = 3 ∧ (n < 0 ∨ 15 < n ∨ n = f)) :
    Calls Try.prog 93 #[ptr r 0, .agg #[.int .i64 k, .int .i64 f, .int .i64 n, .string s]] w fun e w' => e = .returned (.int .i64 2) ∧ Below w.heap.size w w' := by
  have hbA := bel_alloc w (.cells #[.int .i64 k, .int .i64 f, .int .i64 n, .string s] 132)
  have hbx := heap_alloc_new w (.cells #[.int .i64 k, .int .i64 f, .int .i64 n, .string s] 132)
  obtain ⟨lo, hc, hl, hg⟩ := (h.below hbA).cells
  obtain ⟨-, c34, -⟩ := diskC_rest h.ok lo
  have c34 := cells_at hc 34 _ c34
  rw [hoff] at c34
  obtain ⟨bc, hbc⟩ : ∃ b, w.heap.size = b := ⟨_, rfl⟩
  obtain ⟨W1, hW1⟩ : ∃ W, w.alloc (.cells #[.int .i64 k, .int .i64 f, .int .i64 n, .string s] 132) = W := ⟨_, rfl⟩
  rw [hW1] at hbA c34 hbx
  rw [hbc] at hbx
  have x0 := cells_at hbx 0 _ rfl
  have x1 := cells_at hbx 1 _ rfl
  have x2 := cells_at hbx 2 _ rfl
  simp only [List.getElem_toArray, List.getElem_cons_zero, List.getElem_cons_succ] at x0 x1 x2
  have HBA := Lib.hid hbA
  clear h hc hl hg hbA hoff hbx
  unfold ptr
  by_cases h1 : f < 0
  · have d1 : decide (f < 0) = true := by simpa using h1
    clear hbad h1
    go_enter Try.func93, Try.ntmps93
    go_upto_region 1 with fail
    clear hW1 hbc
    go_wp2_with fail
    go_ret
    exact ⟨rfl, HBA.out⟩
  · have d1 : decide (f < 0) = false := by simpa using h1
    by_cases h2 : 15 < f
    · have d2 : decide (15 < f) = true := by simpa using h2
      clear hbad h1 h2
      go_enter Try.func93, Try.ntmps93
      go_upto_region 1 with fail
      clear hW1 hbc
      go_wp2_with fail
      go_ret
      exact ⟨rfl, HBA.out⟩
    · have d2 : decide (15 < f) = false := by simpa using h2
      obtain ⟨rfl, hn⟩ : k = 3 ∧ (n < 0 ∨ 15 < n ∨ n = f) := by
        rcases hbad with h | h | h
        · exact absurd h h1
        · exact absurd h h2
        · exact h
      clear hbad h1 h2
      by_cases h3 : n < 0
      · have d3 : decide (n < 0) = true := by simpa using h3
        clear hn h3
        go_enter Try.func93, Try.ntmps93
        go_upto_region 1 with fail
        clear hW1 hbc
        go_wp2_with fail
        go_ret
        exact ⟨rfl, HBA.out⟩
      · have d3 : decide (n < 0) = false := by simpa using h3
        by_cases h4 : 15 < n
        · have d4 : decide (15 < n) = true := by simpa using h4
          clear hn h3 h4
          go_enter Try.func93, Try.ntmps93
          go_upto_region 1 with fail
          clear hW1 hbc
          go_wp2_with fail
          go_ret
          exact ⟨rfl, HBA.out⟩
        · have d4 : decide (15 < n) = false := by simpa using h4
          obtain rfl : n = f := by
            rcases hn with h | h | h
            · exact absurd h h3
            · exact absurd h h4
            · exact h
          clear hn h3 h4
          go_enter Try.func93, Try.ntmps93
          go_upto_region 1 with fail
          clear hW1 hbc
          go_wp2_with fail
          go_ret
          exact ⟨rfl, HBA.out⟩

theorem rchange_full (w : World) (r : Nat) (S : Dk.St) (G : Nat → Prop) (h : RDAt w r S G) (f : Nat) (hf : f < 16) (s : ByteArray) (hoff : S.off = false) (hroom : Dk.leftOf S < (s.size : Int)) :
    Calls Try.prog 93 #[ptr r 0, .agg #[.int .i64 1, .int .i64 (f : Int), .int .i64 0, .string s]] w fun e w' => e = .returned (.int .i64 7) ∧ Below w.heap.size w w' := by
  have hbA := bel_alloc w (.cells #[.int .i64 1, .int .i64 (f : Int), .int .i64 0, .string s] 132)
  have hbx := heap_alloc_new w (.cells #[.int .i64 1, .int .i64 (f : Int), .int .i64 0, .string s] 132)
  have hrd := h.below hbA
  obtain ⟨lo, hc, hl, hg⟩ := (h.below hbA).cells
  obtain ⟨-, c34, -⟩ := diskC_rest h.ok lo
  have c34 := cells_at hc 34 _ c34
  rw [hoff] at c34
  obtain ⟨bc, hbc⟩ : ∃ b, w.heap.size = b := ⟨_, rfl⟩
  obtain ⟨W1, hW1⟩ : ∃ W, w.alloc (.cells #[.int .i64 1, .int .i64 (f : Int), .int .i64 0, .string s] 132) = W := ⟨_, rfl⟩
  rw [hW1] at hbA c34 hbx hrd
  rw [hbc] at hbx
  have x0 := cells_at hbx 0 _ rfl
  have x1 := cells_at hbx 1 _ rfl
  have x3 := cells_at hbx 3 _ rfl
  simp only [List.getElem_toArray, List.getElem_cons_zero, List.getElem_cons_succ] at x0 x1 x3
  have HBA := Lib.hid hbA
  have HLF := Lib.hid (fun W (hb : Below W1.heap.size W1 W) => rleft_any W r S G (hrd.below hb))
  have d1 : decide ((f : Int) < 0) = false := by simp
  have d2 : decide ((15 : Int) < (f : Int)) = false := by simp; omega
  have d3 : decide (Dk.leftOf S < (s.size : Int)) = true := by simp; omega
  clear h hc hl hg hbA hoff hbx hrd hroom
  unfold ptr
  go_enter Try.func93, Try.ntmps93
  go_upto_region 1 with fail
  clear hW1 hbc
  go_wp2_with fail
  refine wp_region_still' (by kernel_rfl) (by kernel_rfl) ?_
  iterate 8 still_step
  still_call ((HLF.out _ (bel_drew _)).mono (fun e w h => ⟨h.1, h.2.symm⟩))
  repeat still_step
  refine wpStill_nil ?_
  go_wp2_with fail
  go_ret
  exact ⟨rfl, bel_trans HBA.out (bel_drew _)⟩

theorem rchange_range (w : World) (r : Nat) (S : Dk.St) (G : Nat → Prop) (h : RDAt w r S G) (f : Nat) (n : Int) (hf : f < 16) (hoff : S.off = false) (hbad : n < 0 ∨ ((Dk.at' S.now f).size : Int) < n) :
    Calls Try.prog 93 #[ptr r 0, .agg #[.int .i64 2, .int .i64 (f : Int), .int .i64 n, .string ⟨#[]⟩]] w fun e w' => e = .returned (.int .i64 5) ∧ Below w.heap.size w w' := by
  have hbA := bel_alloc w (.cells #[.int .i64 2, .int .i64 (f : Int), .int .i64 n, .string ⟨#[]⟩] 132)
  have hbx := heap_alloc_new w (.cells #[.int .i64 2, .int .i64 (f : Int), .int .i64 n, .string ⟨#[]⟩] 132)
  obtain ⟨lo, hc, hl, hg⟩ := (h.below hbA).cells
  obtain ⟨-, c34, -⟩ := diskC_rest h.ok lo
  have c34 := cells_at hc 34 _ c34
  rw [hoff] at c34
  have hcn := rcell_now h.ok hc f hf
  obtain ⟨fv, hfv⟩ : ∃ fv, Dk.at' S.now f = fv := ⟨_, rfl⟩
  rw [hfv] at hcn hbad
  have hrl1 := (Array.getElem?_eq_some_iff.1 hc).1
  obtain ⟨bc, hbc⟩ : ∃ b, w.heap.size = b := ⟨_, rfl⟩
  obtain ⟨W1, hW1⟩ : ∃ W, w.alloc (.cells #[.int .i64 2, .int .i64 (f : Int), .int .i64 n, .string ⟨#[]⟩] 132) = W := ⟨_, rfl⟩
  rw [hW1] at hbA c34 hbx hcn hrl1
  rw [hbc] at hbx
  have x0 := cells_at hbx 0 _ rfl
  have x1 := cells_at hbx 1 _ rfl
  have x2 := cells_at hbx 2 _ rfl
  simp only [List.getElem_toArray, List.getElem_cons_zero, List.getElem_cons_succ] at x0 x1 x2
  have hbcl := (Array.getElem?_eq_some_iff.1 hbx).1
  have HBA := Lib.hid hbA
  have d1 : decide ((f : Int) < 0) = false := by simp
  have d2 : decide ((15 : Int) < (f : Int)) = false := by simp; omega
  have hf16 : (f : Int) < 16 := by omega
  clear h hc hl hg hbA hoff hbx hfv
  unfold ptr
  by_cases h1 : n < 0
  · have d3 : decide (n < 0) = true := by simpa using h1
    clear hbad h1
    go_enter Try.func93, Try.ntmps93
    go_upto_region 1 with fail
    clear hW1 hbc
    go_wp2_with fail
    refine wp_region_free [0, 1, 2, 3, 4, 5, 6, 7, 8, 9] 10 (fun W' => Below W1.heap.size W1 W') (by kernel_rfl) (by kernel_rfl) ?_
    change wpYields _ _ _ _ [_, _, _, _, _, _, _, _, _, _] _
    iterate 10 (refine yields_step (fun K hK => ?_); apply Exists.intro; apply And.intro; (first | (apply yields_at rfl; rintro W' hb; have z0 := (hb.cell (p := ⟨bc, 0, none⟩) hbcl).trans x0; go_simp; first | done | rfl) | exact (fun _ _ => .inr ⟨by rfl, rfl⟩)); go_simp; refine hK _ ?_; clear hK K)
    refine yields_nil ?_
    refine anyP_leaf (bel_drew W1) (by kernel_rfl) ?_
    simp only [List.drop_succ_cons, List.drop_zero]
    go_wp2_with fail
    generalize hWa : W1.drew = Wa
    have x0 : Wa.cell? ⟨bc, 0, none⟩ = some (.int .i64 2) := by rw [← hWa]; exact x0
    have x1 : Wa.cell? ⟨bc, 1, none⟩ = some (.int .i64 (f : Int)) := by rw [← hWa]; exact x1
    have x2 : Wa.cell? ⟨bc, 2, none⟩ = some (.int .i64 n) := by rw [← hWa]; exact x2
    have hcn : Wa.cell? ⟨r, 1 + f, none⟩ = some (.string fv) := by rw [← hWa]; exact hcn
    have hrla : r < Wa.heap.size := by rw [← hWa]; exact hrl1
    have hba : Below W1.heap.size W1 Wa := by rw [← hWa]; exact bel_drew _
    have HBAA := Lib.hid hba
    have hbca : bc < Wa.heap.size := by have := hba.size; omega
    clear hWa hba
    refine wp_region_free [0, 1, 2, 3, 4, 5, 6, 7, 8, 9, 10, 11, 12, 13, 14, 15, 16, 17, 18, 19] 20 (fun W' => Below Wa.heap.size Wa W') (by kernel_rfl) (by kernel_rfl) ?_
    change wpYields _ _ _ _ [_, _, _, _, _, _, _, _, _, _, _, _, _, _, _, _, _, _, _, _] _
    iterate 20 (refine yields_step (fun K hK => ?_); apply Exists.intro; apply And.intro; (first | (apply yields_at rfl; rintro W' hb; have z0 := (hb.cell (p := ⟨bc, 0, none⟩) hbca).trans x0; have z1 := (hb.cell (p := ⟨bc, 1, none⟩) hbca).trans x1; have z2 := (hb.cell (p := ⟨bc, 2, none⟩) hbca).trans x2; have zn := (hb.cell (p := ⟨r, 1 + f, none⟩) hrla).trans hcn; go_simp; first | done | rfl) | exact (fun _ _ => .inr ⟨by rfl, rfl⟩)); go_simp; refine hK _ ?_; clear hK K)
    refine yields_nil ?_
    refine anyP_leaf (bel_drew Wa) (by kernel_rfl) ?_
    simp only [List.drop_succ_cons, List.drop_zero]
    go_wp2_with fail
    go_ret
    exact ⟨rfl, bel_trans HBA.out (bel_trans HBAA.out (bel_drew _))⟩
  · have d3 : decide (n < 0) = false := by simpa using h1
    have d4 : decide ((fv.size : Int) < n) = true := by simp; omega
    clear hbad h1
    go_enter Try.func93, Try.ntmps93
    go_upto_region 1 with fail
    clear hW1 hbc
    go_wp2_with fail
    refine wp_region_free [0, 1, 2, 3, 4, 5, 6, 7, 8, 9] 10 (fun W' => Below W1.heap.size W1 W') (by kernel_rfl) (by kernel_rfl) ?_
    change wpYields _ _ _ _ [_, _, _, _, _, _, _, _, _, _] _
    iterate 10 (refine yields_step (fun K hK => ?_); apply Exists.intro; apply And.intro; (first | (apply yields_at rfl; rintro W' hb; have z0 := (hb.cell (p := ⟨bc, 0, none⟩) hbcl).trans x0; go_simp; first | done | rfl) | exact (fun _ _ => .inr ⟨by rfl, rfl⟩)); go_simp; refine hK _ ?_; clear hK K)
    refine yields_nil ?_
    refine anyP_leaf (bel_drew W1) (by kernel_rfl) ?_
    simp only [List.drop_succ_cons, List.drop_zero]
    go_wp2_with fail
    generalize hWa : W1.drew = Wa
    have x0 : Wa.cell? ⟨bc, 0, none⟩ = some (.int .i64 2) := by rw [← hWa]; exact x0
    have x1 : Wa.cell? ⟨bc, 1, none⟩ = some (.int .i64 (f : Int)) := by rw [← hWa]; exact x1
    have x2 : Wa.cell? ⟨bc, 2, none⟩ = some (.int .i64 n) := by rw [← hWa]; exact x2
    have hcn : Wa.cell? ⟨r, 1 + f, none⟩ = some (.string fv) := by rw [← hWa]; exact hcn
    have hrla : r < Wa.heap.size := by rw [← hWa]; exact hrl1
    have hba : Below W1.heap.size W1 Wa := by rw [← hWa]; exact bel_drew _
    have HBAA := Lib.hid hba
    have hbca : bc < Wa.heap.size := by have := hba.size; omega
    clear hWa hba
    refine wp_region_free [0, 1, 2, 3, 4, 5, 6, 7, 8, 9, 10, 11, 12, 13, 14, 15, 16, 17, 18, 19] 20 (fun W' => Below Wa.heap.size Wa W') (by kernel_rfl) (by kernel_rfl) ?_
    change wpYields _ _ _ _ [_, _, _, _, _, _, _, _, _, _, _, _, _, _, _, _, _, _, _, _] _
    iterate 20 (refine yields_step (fun K hK => ?_); apply Exists.intro; apply And.intro; (first | (apply yields_at rfl; rintro W' hb; have z0 := (hb.cell (p := ⟨bc, 0, none⟩) hbca).trans x0; have z1 := (hb.cell (p := ⟨bc, 1, none⟩) hbca).trans x1; have z2 := (hb.cell (p := ⟨bc, 2, none⟩) hbca).trans x2; have zn := (hb.cell (p := ⟨r, 1 + f, none⟩) hrla).trans hcn; go_simp; first | done | rfl) | exact (fun _ _ => .inr ⟨by rfl, rfl⟩)); go_simp; refine hK _ ?_; clear hK K)
    refine yields_nil ?_
    refine anyP_leaf (bel_drew Wa) (by kernel_rfl) ?_
    simp only [List.drop_succ_cons, List.drop_zero]
    go_wp2_with fail
    go_ret
    exact ⟨rfl, bel_trans HBA.out (bel_trans HBAA.out (bel_drew _))⟩

theorem rappend_any (w : World) (r : Nat) (S : Dk.St) (G : Nat → Prop) (h : RDAt w r S G) (f : Int) (s : ByteArray) (hm : S.loose.length ≤ 1000000000) :
    Calls Try.prog 54 #[ptr r 0, .int .i64 f, .string s] w fun e w' => e = .returned (.int .i64 (Dk.append S f s).1) ∧ RTurned w w' r (Dk.append S f s).2 G := by
  have hcall : Calls Try.prog 93 #[ptr r 0, .agg #[.int .i64 1, .int .i64 f, .int .i64 0, .string s]] w fun e w' => e = .returned (.int .i64 (Dk.append S f s).1) ∧ RTurned w w' r (Dk.append S f s).2 G := by
    unfold Dk.append
    by_cases hr : Dk.ready S [f] = 0
    · rw [if_neg (by simpa using hr)]
      obtain ⟨hoff, hr1⟩ := Dk.ready_one hr
      obtain ⟨m, rfl⟩ : ∃ m : Nat, f = m := ⟨f.toNat, by omega⟩
      rw [Int.toNat_natCast]
      by_cases hl : Dk.leftOf S < (s.size : Int)
      · rw [if_pos hl]
        exact (rchange_full w r S G h m (by omega) s hoff hl).mono fun e w' ⟨h1, h2⟩ => ⟨h1, RTurned.below h h2⟩
      · rw [if_neg hl]
        exact rchange_app w r S G h m (by omega) s hoff (by omega) hm
    · rw [if_pos hr]
      by_cases hoff : S.off = true
      · have hx : Dk.ready S [f] = 50 := by unfold Dk.ready; rw [if_pos hoff]
        rw [hx]
        exact (rchange_off w r S G h 1 f 0 s hoff).mono fun e w' ⟨h1, h2⟩ => ⟨h1, RTurned.below h h2⟩
      · have ho : S.off = false := by simpa using hoff
        have hx : Dk.ready S [f] = Dk.argE [f] := by unfold Dk.ready; rw [ho]; rfl
        have hb : ¬ [f].all Dk.isF = true := fun e => hr (by rw [hx]; exact Dk.argE_ok e)
        rw [hx, Dk.argE_bad hb]
        refine (rchange_arg w r S G h 1 f 0 s ho ?_).mono fun e w' ⟨h1, h2⟩ => ⟨h1, RTurned.below h h2⟩
        simp [Dk.isF] at hb
        omega
  have HC := Lib.hid hcall
  clear hcall h
  unfold ptr at HC ⊢
  go_enter Try.func54, Try.ntmps54
  go_wp2_with fail
  refine HC.out.mono ?_
  rintro e w' ⟨rfl, ht⟩
  have HT := Lib.hid ht
  clear ht
  go_wp2_with fail
  go_ret
  exact ⟨rfl, HT.out⟩

theorem rcut_any (w : World) (r : Nat) (S : Dk.St) (G : Nat → Prop) (h : RDAt w r S G) (f n : Int) (hm : S.loose.length ≤ 1000000000) :
    Calls Try.prog 56 #[ptr r 0, .int .i64 f, .int .i64 n] w fun e w' => e = .returned (.int .i64 (Dk.cut S f n).1) ∧ RTurned w w' r (Dk.cut S f n).2 G := by
  have hcall : Calls Try.prog 93 #[ptr r 0, .agg #[.int .i64 2, .int .i64 f, .int .i64 n, .string ⟨#[]⟩]] w fun e w' => e = .returned (.int .i64 (Dk.cut S f n).1) ∧ RTurned w w' r (Dk.cut S f n).2 G := by
    unfold Dk.cut
    by_cases hr : Dk.ready S [f] = 0
    · rw [if_neg (by simpa using hr)]
      obtain ⟨hoff, hr1⟩ := Dk.ready_one hr
      obtain ⟨m, rfl⟩ : ∃ m : Nat, f = m := ⟨f.toNat, by omega⟩
      rw [Int.toNat_natCast]
      by_cases hl : n < 0 ∨ ((Dk.at' S.now m).size : Int) < n
      · rw [if_pos hl]
        exact (rchange_range w r S G h m n (by omega) hoff hl).mono fun e w' ⟨h1, h2⟩ => ⟨h1, RTurned.below h h2⟩
      · rw [if_neg hl]
        obtain ⟨q, rfl⟩ : ∃ q : Nat, n = q := ⟨n.toNat, by omega⟩
        rw [Int.toNat_natCast]
        exact rchange_cut w r S G h m q (by omega) hoff (by omega) hm
    · rw [if_pos hr]
      by_cases hoff : S.off = true
      · have hx : Dk.ready S [f] = 50 := by unfold Dk.ready; rw [if_pos hoff]
        rw [hx]
        exact (rchange_off w r S G h 2 f n _ hoff).mono fun e w' ⟨h1, h2⟩ => ⟨h1, RTurned.below h h2⟩
      · have ho : S.off = false := by simpa using hoff
        have hx : Dk.ready S [f] = Dk.argE [f] := by unfold Dk.ready; rw [ho]; rfl
        have hb : ¬ [f].all Dk.isF = true := fun e => hr (by rw [hx]; exact Dk.argE_ok e)
        rw [hx, Dk.argE_bad hb]
        refine (rchange_arg w r S G h 2 f n _ ho ?_).mono fun e w' ⟨h1, h2⟩ => ⟨h1, RTurned.below h h2⟩
        simp [Dk.isF] at hb
        omega
  have HC := Lib.hid hcall
  clear hcall h
  unfold ptr at HC ⊢
  go_enter Try.func56, Try.ntmps56
  go_wp2_with fail
  refine HC.out.mono ?_
  rintro e w' ⟨rfl, ht⟩
  have HT := Lib.hid ht
  clear ht
  go_wp2_with fail
  go_ret
  exact ⟨rfl, HT.out⟩

theorem rmove_any (w : World) (r : Nat) (S : Dk.St) (G : Nat → Prop) (h : RDAt w r S G) (a b : Int) (hm : S.loose.length ≤ 1000000000) :
    Calls Try.prog 58 #[ptr r 0, .int .i64 a, .int .i64 b] w fun e w' => e = .returned (.int .i64 (Dk.move S a b).1) ∧ RTurned w w' r (Dk.move S a b).2 G := by
  have hcall : Calls Try.prog 93 #[ptr r 0, .agg #[.int .i64 3, .int .i64 a, .int .i64 b, .string ⟨#[]⟩]] w fun e w' => e = .returned (.int .i64 (Dk.move S a b).1) ∧ RTurned w w' r (Dk.move S a b).2 G := by
    unfold Dk.move
    by_cases hr : Dk.ready S [a, b] = 0
    · rw [if_neg (by simpa using hr)]
      obtain ⟨hoff, hr1, hr2⟩ := Dk.ready_two hr
      obtain ⟨m, rfl⟩ : ∃ m : Nat, a = m := ⟨a.toNat, by omega⟩
      obtain ⟨q, rfl⟩ : ∃ q : Nat, b = q := ⟨b.toNat, by omega⟩
      rw [Int.toNat_natCast, Int.toNat_natCast]
      by_cases hl : (m : Int) = (q : Int)
      · rw [if_pos hl]
        exact (rchange_arg w r S G h 3 m q _ hoff (.inr (.inr ⟨rfl, .inr (.inr hl.symm)⟩))).mono fun e w' ⟨h1, h2⟩ => ⟨h1, RTurned.below h h2⟩
      · rw [if_neg hl]
        exact rchange_mov w r S G h m q (by omega) (by omega) (by omega) hoff hm
    · rw [if_pos hr]
      by_cases hoff : S.off = true
      · have hx : Dk.ready S [a, b] = 50 := by unfold Dk.ready; rw [if_pos hoff]
        rw [hx]
        exact (rchange_off w r S G h 3 a b _ hoff).mono fun e w' ⟨h1, h2⟩ => ⟨h1, RTurned.below h h2⟩
      · have ho : S.off = false := by simpa using hoff
        have hx : Dk.ready S [a, b] = Dk.argE [a, b] := by unfold Dk.ready; rw [ho]; rfl
        have hb : ¬ [a, b].all Dk.isF = true := fun e => hr (by rw [hx]; exact Dk.argE_ok e)
        rw [hx, Dk.argE_bad hb]
        refine (rchange_arg w r S G h 3 a b _ ho ?_).mono fun e w' ⟨h1, h2⟩ => ⟨h1, RTurned.below h h2⟩
        simp [Dk.isF] at hb
        omega
  have HC := Lib.hid hcall
  clear hcall h
  unfold ptr at HC ⊢
  go_enter Try.func58, Try.ntmps58
  go_wp2_with fail
  refine HC.out.mono ?_
  rintro e w' ⟨rfl, ht⟩
  have HT := Lib.hid ht
  clear ht
  go_wp2_with fail
  go_ret
  exact ⟨rfl, HT.out⟩

end Go.Proofs.Ytllecjhfbojgcaa

/-
  The reference's Crash walked.
-/
namespace Go.Proofs.Ytllecjhfbojgcaa
open Go.RowKit
set_option maxRecDepth 20000

theorem diskL_sure' {S : Dk.St} (hn : S.now.length = 16) (hs : S.sure.length = 16) (lv : Value) (i : Nat) (hi : i < 16) : (diskL S lv)[17 + i]? = some (.string (Dk.at' S.sure i)) := by
  rw [show 17 + i = (16 + i) + 1 by omega]
  simp only [diskL, List.getElem?_cons_succ]
  rw [List.getElem?_append_right (by simp [hn]), List.getElem?_append_left (by simp [hn, hs]; omega), List.getElem?_map, Dk.at_get _ _ (by simp [hn, hs]; omega)]
  simp [hn]
theorem diskL_rest' {S : Dk.St} (hn : S.now.length = 16) (hs : S.sure.length = 16) (lv : Value) (i : Nat) : (diskL S lv)[33 + i]? = [lv, .bool S.off, .int .i64 S.left][i]? := by
  rw [show 33 + i = (32 + i) + 1 by omega]
  simp only [diskL, List.getElem?_cons_succ]
  rw [List.getElem?_append_right (by simp [hn]; omega), List.getElem?_append_right (by simp [hn, hs]; omega)]
  simp [hn, hs, show 32 + i - 16 - 16 = i by omega]
theorem diskL_len' {S : Dk.St} (hn : S.now.length = 16) (hs : S.sure.length = 16) (lv : Value) : (diskL S lv).length = 36 := by simp [diskL, hn, hs]
theorem rrange_sure' {w : World} {d : Nat} {S : Dk.St} {lv : Value} {T : TypeId} (hn : S.now.length = 16) (hs : S.sure.length = 16) (hc : w.heap[d]? = some (.cells (diskCells S lv) T)) : w.rangeAt d 17 (strs S.sure) := by
  intro j v hv
  have hj : j < 16 := by
    have := (List.getElem?_eq_some_iff.1 hv).1
    rwa [strs_len, hs] at this
  rw [strs_at _ _ (by rw [hs]; exact hj)] at hv
  cases hv
  exact cells_at hc _ _ (by simpa [diskCells] using diskL_sure' hn hs lv j hj)

/-- What made does with the k-th loose change. -/
theorem made_ch {S : Dk.St} (h : Dk.Ok S) (k : Nat) (c : Dk.Ch) (hk : S.loose[k]? = some c) :
    ∃ (kd f n : Int) (s : ByteArray), chCells c = [.int .i64 kd, .int .i64 f, .int .i64 n, .string s] ∧
      (∀ W, Calls Try.prog 65 #[.agg (strs (Dk.runs S.sure (S.loose.take k))).toArray, .agg #[.int .i64 kd, .int .i64 f, .int .i64 n, .string s], .int .i64 (s.size : Int)] W fun e w' => e = .returned (.agg (strs (Dk.runs S.sure (S.loose.take (k + 1)))).toArray) ∧ Below W.heap.size W w') ∧
      (kd = 1 → ∀ (b : Int) W, Calls Try.prog 65 #[.agg (strs (Dk.runs S.sure (S.loose.take k))).toArray, .agg #[.int .i64 kd, .int .i64 f, .int .i64 n, .string s], .int .i64 b] W fun e w' => e = .returned (.agg (strs (Dk.tail (some c) b (Dk.runs S.sure (S.loose.take k)))).toArray) ∧ Below W.heap.size W w') ∧
      (kd ≠ 1 → ∀ (b : Int), Dk.tail (some c) b (Dk.runs S.sure (S.loose.take k)) = Dk.runs S.sure (S.loose.take k)) := by
  have hlen : (Dk.runs S.sure (S.loose.take k)).length = 16 := by rw [Dk.runs_len]; exact h.sureL
  obtain ⟨hok, htot⟩ := h.chain.at k c hk
  have hroom := h.room
  rw [Dk.runs_take_succ _ _ _ _ hk]
  generalize Dk.runs S.sure (S.loose.take k) = fs at hlen hok htot ⊢
  cases c with
  | app f s =>
    have hf : f < 16 := hok
    have ht : (Dk.at' fs f).size + s.size ≤ 4194304 := by
      rw [Dk.total_app f s fs (by omega)] at htot
      have := Dk.at_le fs f
      omega
    refine ⟨1, f, 0, s, rfl, fun W => ?_, fun _ b W => made_app W fs hlen f hf s b ht, fun h => absurd rfl h⟩
    have := made_app W fs hlen f hf s (s.size : Int) ht
    rw [Dk.clip_all, Dk.part_all] at this
    exact this
  | cut f n =>
    refine ⟨2, f, n, ⟨#[]⟩, rfl, fun W => made_cutc W fs hlen f n hok.1 _ hok.2, fun h => absurd h (by decide), fun _ b => rfl⟩
  | mov a b =>
    refine ⟨3, a, b, ⟨#[]⟩, rfl, fun W => made_movc W fs hlen a b hok.1 hok.2.1 _, fun h => absurd h (by decide), fun _ b => rfl⟩

/-- The box while Crash goes on: the files that are sure are fs. -/
structure CrAt (w wr : World) (r : Nat) (S : Dk.St) (fs : Dk.Files) (lv : Value) : Prop where
  only : Only (fun k => k = r) w wr
  box : wr.heap[r]? = some (.cells (diskCells { S with sure := fs } lv) 61)
  row : wr.ownsRow 0 132 4 lv S.loose.length (chgCells S.loose)
  len : fs.length = 16
theorem CrAt.put {w wr W5 : World} {r : Nat} {S : Dk.St} {fs fs2 : Dk.Files} {lv : Value} (h : CrAt w wr r S fs lv) (hn : S.now.length = 16) (hb : Below wr.heap.size wr W5) (hl : fs2.length = 16) : CrAt w (W5.setCells r 17 (strs fs2).toArray.toList) r S fs2 lv := by
  have hrl := (Array.getElem?_eq_some_iff.1 h.box).1
  have hc5 := (hb.block r hrl).trans h.box
  refine ⟨(h.only.trans (Only.below hb)).trans (Only.setCells (S := fun k => k = r) r rfl _ _ _), ?_, ?_, hl⟩
  · rw [heap_setCells _ _ _ _ hc5, puts_sure (S := { S with sure := fs }) hn h.len lv fs2 hl]
    rfl
  · refine own_kept h.row (fun g hg => ?_)
    rcases h.row.2 with hh | ⟨g', cap, cur, hv, _, hcc, _⟩
    · rw [hh.1] at hg; cases hg
    · rw [hv] at hg
      simp only [Value.ownBlock, Option.some.injEq] at hg
      subst hg
      have hgl := (Array.getElem?_eq_some_iff.1 hcc).1
      have hgr : g' ≠ r := fun e => by
        rw [e, h.box] at hcc
        simp only [Option.some.injEq, Obj.cells.injEq] at hcc
        exact absurd hcc.2.1 (by decide)
      have hs := hb.size
      rw [(Only.setCells (S := fun k => k = r) r rfl (strs fs2).toArray.toList 17 W5).block g' (by omega) hgr]
      exact hb.block g' hgl
theorem CrAt.there {w wr W5 : World} {r : Nat} {S : Dk.St} {fs fs2 : Dk.Files} {lv : Value} (h : CrAt w wr r S fs lv) (hn : S.now.length = 16) (hb : Below wr.heap.size wr W5) (hl : fs2.length = 16) (o : Nat) (ho : o ≤ 17) : W5.there r o (strs fs2).toArray.size := by
  have hrl := (Array.getElem?_eq_some_iff.1 h.box).1
  have hc5 := (hb.block r hrl).trans h.box
  refine there_of hc5 o _ ?_
  have he : (diskCells { S with sure := fs } lv).size = 36 := by unfold diskCells; rw [List.size_toArray, diskL_len' (S := { S with sure := fs }) hn h.len lv]
  rw [he, List.size_toArray, strs_len, hl]
  omega
theorem CrAt.range {w wr W5 : World} {r : Nat} {S : Dk.St} {fs : Dk.Files} {lv : Value} (h : CrAt w wr r S fs lv) (hn : S.now.length = 16) (hb : Below wr.heap.size wr W5) : W5.rangeAt r 17 (strs fs) :=
  rrange_sure' (S := { S with sure := fs }) hn h.len ((hb.block r (Array.getElem?_eq_some_iff.1 h.box).1).trans h.box)
theorem CrAt.cell33 {w wr W5 : World} {r : Nat} {S : Dk.St} {fs : Dk.Files} {lv : Value} (h : CrAt w wr r S fs lv) (hn : S.now.length = 16) (hb : Below wr.heap.size wr W5) : W5.cell? ⟨r, 33, none⟩ = some lv :=
  cells_at ((hb.block r (Array.getElem?_eq_some_iff.1 h.box).1).trans h.box) 33 _ (by
    have := diskL_rest' (S := { S with sure := fs }) hn h.len lv 0
    simpa [diskCells] using this)
theorem chs_at {w : World} {b o c : Nat} {l : List Dk.Ch} (h : Reads w (.slice (some ⟨b, o, none⟩) l.length c) l.length (chgCells l)) (k : Nat) (x : Dk.Ch) (hx : l[k]? = some x) {kd f n : Int} {s : ByteArray} (hc : chCells x = [.int .i64 kd, .int .i64 f, .int .i64 n, .string s]) :
    b < w.heap.size ∧ w.cell? ⟨b, o + k * 4, none⟩ = some (.int .i64 kd) ∧ w.cell? ⟨b, o + k * 4 + 1, none⟩ = some (.int .i64 f) ∧ w.cell? ⟨b, o + k * 4 + 2, none⟩ = some (.int .i64 n) ∧ w.cell? ⟨b, o + k * 4 + 3, none⟩ = some (.string s) := by
  have hlt := (List.getElem?_eq_some_iff.1 hx).1
  obtain ⟨b', o', c', hv, -, -, hb, hcells⟩ := h.some (by omega)
  cases hv
  have h0 := chgCells_at l k x hx 0 _ (by rw [hc]; rfl)
  have h1 := chgCells_at l k x hx 1 _ (by rw [hc]; rfl)
  have h2 := chgCells_at l k x hx 2 _ (by rw [hc]; rfl)
  have h3 := chgCells_at l k x hx 3 _ (by rw [hc]; rfl)
  exact ⟨hb, hcells _ _ h0, hcells _ _ h1, hcells _ _ h2, hcells _ _ h3⟩

theorem RDAt.cr {w : World} {r : Nat} {S : Dk.St} {G : Nat → Prop} (h : RDAt w r S G) : ∃ lv, CrAt w w r S S.sure lv := by
  obtain ⟨lv, h1, h2, -⟩ := h.cells
  exact ⟨lv, Only.refl _ _, h1, h2, h.ok.sureL⟩

set_option maxHeartbeats 8000000 in
set_option maxRecDepth 100000 in
theorem rcrash_any (w : World) (r : Nat) (S : Dk.St) (G : Nat → Prop) (h : RDAt w r S G) (a b : Int) :
    Calls Try.prog 28 #[ptr r 0, .int .i64 a, .int .i64 b] w fun e w' => e = .returned (.tuple #[]) ∧ RTurned w w' r (Dk.crash S a b) G := by
  obtain ⟨lv, hcr⟩ := h.cr
  obtain ⟨la, lc, rfl⟩ := (Reads.own hcr.row).shape
  have hNle := (Reads.own hcr.row).lenLe
  unfold maxLen at hNle
  have H := Lib.hid h
  have HNW := Lib.hid h.ok.nowL
  obtain ⟨N, hN⟩ : ∃ N, S.loose.length = N := ⟨_, rfl⟩
  have HN := Lib.hid hN
  obtain ⟨q, hq⟩ : ∃ q, Dk.clip a N = q := ⟨_, rfl⟩
  have HQ := Lib.hid hq
  have hqN : q ≤ N := by rw [← hq]; exact Dk.clip_le _ _
  have HQ1 := Lib.hid (show ∀ k, k < q → (k : Int) < a from fun k hk => by unfold Dk.clip at hq; omega)
  have HQ2 := Lib.hid (show q < N → ¬ (q : Int) < a from fun hk => by unfold Dk.clip at hq; omega)
  rw [hN] at hcr hNle
  have hcr0 : CrAt w w r S (Dk.runs S.sure (S.loose.take 0)) (.slice la N lc) := by simpa [Dk.runs] using hcr
  have HCR := Lib.hid hcr0
  clear h hcr hq hN hcr0
  unfold ptr
  go_enter Try.func28, Try.ntmps28
  go_wp2_with fail
  go_loopw [6] (fun i wr => ∃ k : Nat, k ≤ q ∧ i = .int .i64 (k : Int) ∧ Hid (CrAt w wr r S (Dk.runs S.sure (S.loose.take k)) (.slice la N lc))) (fun i _ => q - (intOf i).toNat)
  case atStart => exact ⟨0, Nat.zero_le _, rfl, HCR⟩
  case round =>
    obtain ⟨k, hk, rfl, HS⟩ := hrel
    by_cases hlt : k < q
    · obtain ⟨c, hc⟩ : ∃ c, S.loose[k]? = some c := ⟨_, List.getElem?_eq_getElem (show k < S.loose.length by rw [HN.out]; omega)⟩
      obtain ⟨kd, f, n, s, hcc, hm1, -, -⟩ := made_ch H.out.ok k c hc
      obtain ⟨lb, lo, lc', hlv, -, -, -, -⟩ := (Reads.own HS.out.row).some (by rw [HN.out]; omega)
      obtain ⟨rfl, -, rfl⟩ : la = some ⟨lb, lo, none⟩ ∧ S.loose.length = N ∧ lc = lc' := by
        simp only [Value.slice.injEq] at hlv
        exact ⟨hlv.1, HN.out, hlv.2.2⟩
      have HCH := Lib.hid (fun (W' : World) (hb : Below wr.heap.size wr W') => chs_at (by rw [HN.out]; exact (Reads.own HS.out.row |>.below hb |> fun x => by rwa [HN.out] at x)) k c hc hcc)
      have HM1 := Lib.hid hm1
      have h33 := HS.out.cell33 HNW.out (Below.refl _ _)
      have H33 := Lib.hid (fun (W' : World) (hb : Below wr.heap.size wr W') => HS.out.cell33 HNW.out hb)
      have HRG := Lib.hid (fun (W' : World) (hb : Below wr.heap.size wr W') => HS.out.range HNW.out hb)
      have hin := Lib.hid (rinfo (strs (Dk.runs S.sure (S.loose.take k))) (by rw [strs_len]; exact HS.out.len))
      have hi1 : (k : Int) < (N : Int) := by omega
      have d1 : decide ((k : Int) < (N : Int)) = true := by simpa using hi1
      have d2 : decide ((k : Int) < a) = true := by simpa using HQ1.out k hlt
      have hl2 : (Dk.runs S.sure (S.loose.take (k + 1))).length = 16 := by rw [Dk.runs_len]; exact H.out.ok.sureL
      have HL2 := Lib.hid hl2
      obtain ⟨fk, hfk⟩ : ∃ x, Dk.runs S.sure (S.loose.take k) = x := ⟨_, rfl⟩
      obtain ⟨fk2, hfk2⟩ : ∃ x, Dk.runs S.sure (S.loose.take (k + 1)) = x := ⟨_, rfl⟩
      rw [hfk] at HM1 HRG hin HS
      rw [hfk2] at HM1 HL2
      have HFK2 := Lib.hid hfk2
      clear hc hcc hm1 hlv hl2 hfk hfk2
      go_upto_region 2 with fail
      refine wp_region_free [0, 1, 2, 3, 4, 5, 6, 7, 8, 9, 10, 11, 12, 13, 14, 15, 16, 17, 18, 19, 20] 22 (fun W' => Below wr.heap.size wr W') (by kernel_rfl) (by kernel_rfl) ?_
      change wpYields _ _ _ _ [_, _, _, _, _, _, _, _, _, _, _, _, _, _, _, _, _, _, _, _, _] _
      iterate 21 (refine yields_step (fun K hK => ?_); apply Exists.intro; apply And.intro; (first | exact yields_load_mid rfl 58 _ rfl r 17 rfl (strs fk) _ HRG.out Try.underlying58 rfl hin.out | (apply yields_at rfl; rintro W' hb; have zz := H33.out W' hb; obtain ⟨-, z0, z1, z2, z3⟩ := HCH.out W' hb; go_simp; first | done | rfl)); go_simp; refine hK _ ?_; clear hK K)
      refine yields_nil ?_
      refine anyP_one (k := 21) (by kernel_rfl) (by decide) rfl rfl (bel_drew wr) ?_
      refine wpP_step rfl (fun K hK => ?_)
      go_simp
      go_at_call 65
      refine (HM1.out _).mono ?_
      rintro e W5 ⟨rfl, hb5⟩
      have hb5 : Below wr.heap.size wr W5 := bel_trans (bel_drew wr) hb5
      refine hK _ _ ?_
      clear hK K
      refine anyP_leaf hb5 (by kernel_rfl) ?_
      simp only [List.drop_succ_cons, List.drop_zero]
      have hth := Lib.hid (HS.out.there HNW.out hb5 HL2.out 17 (Nat.le_refl _))
      have hone := Lib.hid (strs_one fk2)
      have hin' := Lib.hid (rinfo' (strs fk2) (by rw [strs_len]; exact HL2.out))
      have hX := HS.out.put HNW.out hb5 HL2.out
      obtain ⟨X, hXX⟩ : ∃ X, W5.setCells r 17 (strs fk2).toArray.toList = X := ⟨_, rfl⟩
      rw [hXX] at hX
      have HX := Lib.hid hX
      have HXX := Lib.hid hXX
      clear hX hXX hb5 h33
      go_wp2_with (refine wpList_store_mid rfl 58 _ _ rfl r 17 (strs fk2).toArray rfl rfl hth.out hin'.out hone.out ?_; rw [HXX.out])
      go_roundw
      case rel => exact ⟨k + 1, by omega, by go_num, Lib.hid (by rw [HFK2.out]; exact HX.out)⟩
      case measure => simp [intOf]; omega
    · obtain rfl : k = q := by omega
      have h33 := HS.out.cell33 HNW.out (Below.refl _ _)
      by_cases hkN : k < N
      · obtain ⟨c, hc⟩ : ∃ c, S.loose[k]? = some c := ⟨_, List.getElem?_eq_getElem (show k < S.loose.length by rw [HN.out]; omega)⟩
        obtain ⟨kd, f, n, s, hcc, -, hm2, hm3⟩ := made_ch H.out.ok k c hc
        obtain ⟨lb, lo, lc', hlv, -, -, -, -⟩ := (Reads.own HS.out.row).some (by rw [HN.out]; omega)
        obtain ⟨rfl, -, rfl⟩ : la = some ⟨lb, lo, none⟩ ∧ S.loose.length = N ∧ lc = lc' := by
          simp only [Value.slice.injEq] at hlv
          exact ⟨hlv.1, HN.out, hlv.2.2⟩
        have HCH := Lib.hid (fun (W' : World) (hb : Below wr.heap.size wr W') => chs_at (by rw [HN.out]; exact (Reads.own HS.out.row |>.below hb |> fun x => by rwa [HN.out] at x)) k c hc hcc)
        have hke : Dk.kept S a b = Dk.tail (some c) b (Dk.runs S.sure (S.loose.take k)) := by
          unfold Dk.kept
          rw [HN.out, HQ.out, hc]
        obtain ⟨-, z0, -⟩ := HCH.out wr (Below.refl _ _)
        have hi1 : (k : Int) < (N : Int) := by omega
        have d1 : decide ((k : Int) < (N : Int)) = true := by simpa using hi1
        have d2 : decide ((k : Int) < a) = false := by simpa using HQ2.out hkN
        have HKE := Lib.hid hke
        have HM2 := Lib.hid hm2
        have HM3 := Lib.hid hm3
        have HL2 := Lib.hid (show (Dk.kept S a b).length = 16 from (Dk.kept_ok H.out.ok a b).1)
        clear hc hcc hm2 hm3 hlv hke
        go_upto_if 62 with fail
        go_cut [6] from 63 to 94 (fun s6 wx => s6 = .int .i64 (k : Int) ∧ Hid (CrAt w wx r S (Dk.kept S a b) (.slice (some ⟨lb, lo, none⟩) N lc)))
        case first =>
          by_cases hk1 : kd = 1
          · subst hk1
            have HM := Lib.hid (HM2.out rfl b)
            rw [← HKE.out] at HM
            have H33 := Lib.hid (fun (W' : World) (hb : Below wr.heap.size wr W') => HS.out.cell33 HNW.out hb)
            have HRG := Lib.hid (fun (W' : World) (hb : Below wr.heap.size wr W') => HS.out.range HNW.out hb)
            have hin := Lib.hid (rinfo (strs (Dk.runs S.sure (S.loose.take k))) (by rw [strs_len]; exact HS.out.len))
            obtain ⟨fk, hfk⟩ : ∃ x, Dk.runs S.sure (S.loose.take k) = x := ⟨_, rfl⟩
            rw [hfk] at HM HRG hin HS
            obtain ⟨fk2, hfk2⟩ : ∃ x, Dk.kept S a b = x := ⟨_, rfl⟩
            rw [hfk2] at HM HL2
            have HFK2 := Lib.hid hfk2
            clear hfk hfk2 HM2 HM3
            go_upto_region 5 with fail
            refine wp_region_free [0, 1, 2, 3, 4, 5, 6, 7, 8, 9, 10, 11, 12] 14 (fun W' => Below wr.heap.size wr W') (by kernel_rfl) (by kernel_rfl) ?_
            change wpYields _ _ _ _ [_, _, _, _, _, _, _, _, _, _, _, _, _] _
            iterate 13 (refine yields_step (fun K hK => ?_); apply Exists.intro; apply And.intro; (first | exact yields_load_mid rfl 58 _ rfl r 17 rfl (strs fk) _ HRG.out Try.underlying58 rfl hin.out | (apply yields_at rfl; rintro W' hb; have zz := H33.out W' hb; obtain ⟨-, z0, z1, z2, z3⟩ := HCH.out W' hb; go_simp; first | done | rfl)); go_simp; refine hK _ ?_; clear hK K)
            refine yields_nil ?_
            refine anyP_one (k := 13) (by kernel_rfl) (by decide) rfl rfl (bel_drew wr) ?_
            refine wpP_step rfl (fun K hK => ?_)
            go_simp
            go_at_call 65
            refine (HM.out _).mono ?_
            rintro e W5 ⟨rfl, hb5⟩
            have hb5 : Below wr.heap.size wr W5 := bel_trans (bel_drew wr) hb5
            refine hK _ _ ?_
            clear hK K
            refine anyP_leaf hb5 (by kernel_rfl) ?_
            simp only [List.drop_succ_cons, List.drop_zero]
            have hth := Lib.hid (HS.out.there HNW.out hb5 HL2.out 17 (Nat.le_refl _))
            have hone := Lib.hid (strs_one fk2)
            have hin' := Lib.hid (rinfo' (strs fk2) (by rw [strs_len]; exact HL2.out))
            have hX := HS.out.put HNW.out hb5 HL2.out
            obtain ⟨X, hXX⟩ : ∃ X, W5.setCells r 17 (strs fk2).toArray.toList = X := ⟨_, rfl⟩
            rw [hXX] at hX
            have HX := Lib.hid hX
            have HXX := Lib.hid hXX
            clear hX hXX hb5 h33
            go_wp2_with (refine wpList_store_mid rfl 58 _ _ rfl r 17 (strs fk2).toArray rfl rfl hth.out hin'.out hone.out ?_; rw [HXX.out])
            go_meet
            case rel => exact ⟨rfl, Lib.hid (by rw [HFK2.out]; exact HX.out)⟩
          · have hk1b : (kd == 1) = false := by simpa using hk1
            go_wp2_with fail
            go_meet
            case rel => exact ⟨rfl, Lib.hid (by rw [HKE.out, HM3.out hk1]; exact HS.out)⟩
        case rest =>
          obtain ⟨rfl, HX⟩ := hcut
          obtain ⟨fk3, hfk3⟩ : ∃ x, Dk.kept S a b = x := ⟨_, rfl⟩
          rw [hfk3] at HX
          have HFK3 := Lib.hid hfk3
          have HL3 := Lib.hid HX.out.len
          have hrg := Lib.hid (HX.out.range HNW.out (Below.refl _ _))
          have hin := Lib.hid (rinfo (strs fk3) (by rw [strs_len]; exact HL3.out))
          have hin' := Lib.hid (rinfo' (strs fk3) (by rw [strs_len]; exact HL3.out))
          have hth := Lib.hid (HX.out.there HNW.out (Below.refl _ _) HL3.out 1 (by decide))
          have hone := Lib.hid (strs_one fk3)
          obtain ⟨Y, hY⟩ : ∃ Y, wc.setCells r 1 (strs fk3).toArray.toList = Y := ⟨_, rfl⟩
          have hcY : Y.heap[r]? = some (.cells (diskCells { S with now := fk3, sure := fk3 } (.slice (some ⟨lb, lo, none⟩) N lc)) 61) := by
            rw [← hY, heap_setCells _ _ _ _ HX.out.box, puts_now (S := { S with sure := fk3 }) HNW.out _ fk3 HL3.out]
            rfl
          have hoY : Only (fun k => k = r) w Y := by
            rw [← hY]
            exact HX.out.only.trans (Only.setCells (S := fun k => k = r) r rfl _ _ _)
          have q33 := cells_at hcY 33 (.slice (some ⟨lb, lo, none⟩) N lc) (by have := diskL_rest' (S := { S with now := fk3, sure := fk3 }) HL3.out HL3.out (.slice (some ⟨lb, lo, none⟩) N lc) 0; simpa [diskCells] using this)
          have q34 := cells_at hcY 34 (.bool S.off) (by have := diskL_rest' (S := { S with now := fk3, sure := fk3 }) HL3.out HL3.out (.slice (some ⟨lb, lo, none⟩) N lc) 1; simpa [diskCells] using this)
          have q35 := cells_at hcY 35 (.int .i64 S.left) (by have := diskL_rest' (S := { S with now := fk3, sure := fk3 }) HL3.out HL3.out (.slice (some ⟨lb, lo, none⟩) N lc) 2; simpa [diskCells] using this)
          have r33 := cells_free hcY 33
          have r34 := cells_free hcY 34
          have r35 := cells_free hcY 35
          have HY := Lib.hid hY
          have HCY := Lib.hid hcY
          have HOY := Lib.hid hoY
          clear hY hcY hoY hfk3
          go_wp2_with (first
            | (refine wpList_load_mid rfl 58 _ rfl r 17 rfl (strs fk3) _ hrg.out Try.underlying58 rfl hin.out ?_)
            | (refine wpList_store_mid rfl 58 _ _ rfl r 1 (strs fk3).toArray rfl rfl hth.out hin'.out hone.out ?_; rw [HY.out]))
          refine bodyPost_end (v := .tuple #[]) (results_none rfl _ _ _) rfl ?_
          refine ⟨rfl, H.out.anew (S' := Dk.crash S a b) (((HOY.out.trans (Only.setCell _ _ ⟨r, 33, none⟩ _ rfl)).trans (Only.setCell _ _ ⟨r, 34, none⟩ _ rfl)).trans (Only.setCell _ _ ⟨r, 35, none⟩ _ rfl)) ?_ (Dk.crash_ok H.out.ok a b) rfl⟩
          have e1 := cells_set HCY.out 33 (.slice none 0 0)
          rw [(diskC_set (S := { S with now := fk3, sure := fk3 }) HL3.out HL3.out _).1] at e1
          have e2 := cells_set e1 34 (.bool false)
          rw [(diskC_set (S := { S with now := fk3, sure := fk3 }) HL3.out HL3.out _).2.1] at e2
          have e3 := cells_set e2 35 (.int .i64 (-1))
          rw [(diskC_set (S := { S with now := fk3, sure := fk3, off := false }) HL3.out HL3.out _).2.2] at e3
          rw [e3]
          unfold Dk.crash
          rw [HFK3.out]
          rfl
      · have hke : Dk.kept S a b = Dk.runs S.sure (S.loose.take k) := by
          unfold Dk.kept
          rw [HN.out, HQ.out, List.getElem?_eq_none (by rw [HN.out]; omega)]
          rfl
        have d1 : decide ((k : Int) < (N : Int)) = false := by simp; omega
        have HKE := Lib.hid hke
        clear hke
        go_upto_if 62 with fail
        go_cut [6] from 63 to 94 (fun s6 wx => s6 = .int .i64 (k : Int) ∧ Hid (CrAt w wx r S (Dk.kept S a b) (.slice la N lc)))
        case first =>
          go_wp2_with fail
          go_meet
          case rel => exact ⟨rfl, Lib.hid (by rw [HKE.out]; exact HS.out)⟩
        case rest =>
          obtain ⟨rfl, HX⟩ := hcut
          obtain ⟨fk3, hfk3⟩ : ∃ x, Dk.kept S a b = x := ⟨_, rfl⟩
          rw [hfk3] at HX
          have HFK3 := Lib.hid hfk3
          have HL3 := Lib.hid HX.out.len
          have hrg := Lib.hid (HX.out.range HNW.out (Below.refl _ _))
          have hin := Lib.hid (rinfo (strs fk3) (by rw [strs_len]; exact HL3.out))
          have hin' := Lib.hid (rinfo' (strs fk3) (by rw [strs_len]; exact HL3.out))
          have hth := Lib.hid (HX.out.there HNW.out (Below.refl _ _) HL3.out 1 (by decide))
          have hone := Lib.hid (strs_one fk3)
          obtain ⟨Y, hY⟩ : ∃ Y, wc.setCells r 1 (strs fk3).toArray.toList = Y := ⟨_, rfl⟩
          have hcY : Y.heap[r]? = some (.cells (diskCells { S with now := fk3, sure := fk3 } (.slice la N lc)) 61) := by
            rw [← hY, heap_setCells _ _ _ _ HX.out.box, puts_now (S := { S with sure := fk3 }) HNW.out _ fk3 HL3.out]
            rfl
          have hoY : Only (fun k => k = r) w Y := by
            rw [← hY]
            exact HX.out.only.trans (Only.setCells (S := fun k => k = r) r rfl _ _ _)
          have q33 := cells_at hcY 33 (.slice la N lc) (by have := diskL_rest' (S := { S with now := fk3, sure := fk3 }) HL3.out HL3.out (.slice la N lc) 0; simpa [diskCells] using this)
          have q34 := cells_at hcY 34 (.bool S.off) (by have := diskL_rest' (S := { S with now := fk3, sure := fk3 }) HL3.out HL3.out (.slice la N lc) 1; simpa [diskCells] using this)
          have q35 := cells_at hcY 35 (.int .i64 S.left) (by have := diskL_rest' (S := { S with now := fk3, sure := fk3 }) HL3.out HL3.out (.slice la N lc) 2; simpa [diskCells] using this)
          have r33 := cells_free hcY 33
          have r34 := cells_free hcY 34
          have r35 := cells_free hcY 35
          have HY := Lib.hid hY
          have HCY := Lib.hid hcY
          have HOY := Lib.hid hoY
          clear hY hcY hoY hfk3
          go_wp2_with (first
            | (refine wpList_load_mid rfl 58 _ rfl r 17 rfl (strs fk3) _ hrg.out Try.underlying58 rfl hin.out ?_)
            | (refine wpList_store_mid rfl 58 _ _ rfl r 1 (strs fk3).toArray rfl rfl hth.out hin'.out hone.out ?_; rw [HY.out]))
          refine bodyPost_end (v := .tuple #[]) (results_none rfl _ _ _) rfl ?_
          refine ⟨rfl, H.out.anew (S' := Dk.crash S a b) (((HOY.out.trans (Only.setCell _ _ ⟨r, 33, none⟩ _ rfl)).trans (Only.setCell _ _ ⟨r, 34, none⟩ _ rfl)).trans (Only.setCell _ _ ⟨r, 35, none⟩ _ rfl)) ?_ (Dk.crash_ok H.out.ok a b) rfl⟩
          have e1 := cells_set HCY.out 33 (.slice none 0 0)
          rw [(diskC_set (S := { S with now := fk3, sure := fk3 }) HL3.out HL3.out _).1] at e1
          have e2 := cells_set e1 34 (.bool false)
          rw [(diskC_set (S := { S with now := fk3, sure := fk3 }) HL3.out HL3.out _).2.1] at e2
          have e3 := cells_set e2 35 (.int .i64 (-1))
          rw [(diskC_set (S := { S with now := fk3, sure := fk3, off := false }) HL3.out HL3.out _).2.2] at e3
          rw [e3]
          unfold Dk.crash
          rw [HFK3.out]
          rfl

end Go.Proofs.Ytllecjhfbojgcaa
