/-
  The reference's Append, Cut, Move walked.
-/
import Derived.Test.YtdnjmihalmhddaaRefChange
namespace Go.Proofs.Ytdnjmihalmhddaa
open Go.RowKit

theorem rchange_off (w : World) (r : Nat) (S : Dk.St) (G : Nat → Prop) (h : RDAt w r S G) (k f n : Int) (s : ByteArray) (hoff : S.off = true) :
    Calls Try.prog 47 #[ptr r 0, .agg #[.int .i64 k, .int .i64 f, .int .i64 n, .string s]] w fun e w' => e = .returned (.int .i64 50) ∧ Below w.heap.size w w' := by
  have hbA := bel_alloc w (.cells #[.int .i64 k, .int .i64 f, .int .i64 n, .string s] 82)
  obtain ⟨lo, hc, hl, hg⟩ := (h.below hbA).cells
  obtain ⟨-, c34, -⟩ := diskC_rest h.ok lo
  have c34 := cells_at hc 34 _ c34
  rw [hoff] at c34
  obtain ⟨W1, hW1⟩ : ∃ W, w.alloc (.cells #[.int .i64 k, .int .i64 f, .int .i64 n, .string s] 82) = W := ⟨_, rfl⟩
  rw [hW1] at hbA c34
  have HBA := Lib.hid hbA
  clear h hc hl hg hbA hoff
  unfold ptr
  go_enter Try.func47, Try.ntmps47
  go_upto_region 1 with fail
  clear hW1
  go_wp2_with fail
  go_ret
  exact ⟨rfl, HBA.out⟩

theorem rchange_arg (w : World) (r : Nat) (S : Dk.St) (G : Nat → Prop) (h : RDAt w r S G) (k f n : Int) (s : ByteArray) (hoff : S.off = false) (hbad : f < 0 ∨ 15 < f ∨ k = 3 ∧ (n < 0 ∨ 15 < n ∨ n = f)) :
    Calls Try.prog 47 #[ptr r 0, .agg #[.int .i64 k, .int .i64 f, .int .i64 n, .string s]] w fun e w' => e = .returned (.int .i64 2) ∧ Below w.heap.size w w' := by
  have hbA := bel_alloc w (.cells #[.int .i64 k, .int .i64 f, .int .i64 n, .string s] 82)
  have hbx := heap_alloc_new w (.cells #[.int .i64 k, .int .i64 f, .int .i64 n, .string s] 82)
  obtain ⟨lo, hc, hl, hg⟩ := (h.below hbA).cells
  obtain ⟨-, c34, -⟩ := diskC_rest h.ok lo
  have c34 := cells_at hc 34 _ c34
  rw [hoff] at c34
  obtain ⟨bc, hbc⟩ : ∃ b, w.heap.size = b := ⟨_, rfl⟩
  obtain ⟨W1, hW1⟩ : ∃ W, w.alloc (.cells #[.int .i64 k, .int .i64 f, .int .i64 n, .string s] 82) = W := ⟨_, rfl⟩
  rw [hW1] at hbA c34 hbx
  rw [hbc] at hbx
  have x0 := cells_at hbx 0 _ rfl
  have x1 := cells_at hbx 1 _ rfl
  have x2 := cells_at hbx 2 _ rfl
  simp only [List.getElem_toArray, List.getElem_cons_zero, List.getElem_cons_succ] at x0 x1 x2
  have HBA := Lib.hid hbA
  clear h hc hl hg hbA hoff hbx
  unfold ptr
  by_cases h1 : f < 0
  · have d1 : decide (f < 0) = true := by simpa using h1
    clear hbad h1
    go_enter Try.func47, Try.ntmps47
    go_upto_region 1 with fail
    clear hW1 hbc
    go_wp2_with fail
    go_ret
    exact ⟨rfl, HBA.out⟩
  · have d1 : decide (f < 0) = false := by simpa using h1
    by_cases h2 : 15 < f
    · have d2 : decide (15 < f) = true := by simpa using h2
      clear hbad h1 h2
      go_enter Try.func47, Try.ntmps47
      go_upto_region 1 with fail
      clear hW1 hbc
      go_wp2_with fail
      go_ret
      exact ⟨rfl, HBA.out⟩
    · have d2 : decide (15 < f) = false := by simpa using h2
      obtain ⟨rfl, hn⟩ : k = 3 ∧ (n < 0 ∨ 15 < n ∨ n = f) := by
        rcases hbad with h | h | h
        · exact absurd h h1
        · exact absurd h h2
        · exact h
      clear hbad h1 h2
      by_cases h3 : n < 0
      · have d3 : decide (n < 0) = true := by simpa using h3
        clear hn h3
        go_enter Try.func47, Try.ntmps47
        go_upto_region 1 with fail
        clear hW1 hbc
        go_wp2_with fail
        go_ret
        exact ⟨rfl, HBA.out⟩
      · have d3 : decide (n < 0) = false := by simpa using h3
        by_cases h4 : 15 < n
        · have d4 : decide (15 < n) = true := by simpa using h4
          clear hn h3 h4
          go_enter Try.func47, Try.ntmps47
          go_upto_region 1 with fail
          clear hW1 hbc
          go_wp2_with fail
          go_ret
          exact ⟨rfl, HBA.out⟩
        · have d4 : decide (15 < n) = false := by simpa using h4
          obtain rfl : n = f := by
            rcases hn with h | h | h
            · exact absurd h h3
            · exact absurd h h4
            · exact h
          clear hn h3 h4
          go_enter Try.func47, Try.ntmps47
          go_upto_region 1 with fail
          clear hW1 hbc
          go_wp2_with fail
          go_ret
          exact ⟨rfl, HBA.out⟩

theorem rchange_full (w : World) (r : Nat) (S : Dk.St) (G : Nat → Prop) (h : RDAt w r S G) (f : Nat) (hf : f < 16) (s : ByteArray) (hoff : S.off = false) (hroom : Dk.leftOf S < (s.size : Int)) :
    Calls Try.prog 47 #[ptr r 0, .agg #[.int .i64 1, .int .i64 (f : Int), .int .i64 0, .string s]] w fun e w' => e = .returned (.int .i64 7) ∧ Below w.heap.size w w' := by
  have hbA := bel_alloc w (.cells #[.int .i64 1, .int .i64 (f : Int), .int .i64 0, .string s] 82)
  have hbx := heap_alloc_new w (.cells #[.int .i64 1, .int .i64 (f : Int), .int .i64 0, .string s] 82)
  have hrd := h.below hbA
  obtain ⟨lo, hc, hl, hg⟩ := (h.below hbA).cells
  obtain ⟨-, c34, -⟩ := diskC_rest h.ok lo
  have c34 := cells_at hc 34 _ c34
  rw [hoff] at c34
  obtain ⟨bc, hbc⟩ : ∃ b, w.heap.size = b := ⟨_, rfl⟩
  obtain ⟨W1, hW1⟩ : ∃ W, w.alloc (.cells #[.int .i64 1, .int .i64 (f : Int), .int .i64 0, .string s] 82) = W := ⟨_, rfl⟩
  rw [hW1] at hbA c34 hbx hrd
  rw [hbc] at hbx
  have x0 := cells_at hbx 0 _ rfl
  have x1 := cells_at hbx 1 _ rfl
  have x3 := cells_at hbx 3 _ rfl
  simp only [List.getElem_toArray, List.getElem_cons_zero, List.getElem_cons_succ] at x0 x1 x3
  have HBA := Lib.hid hbA
  have HLF := Lib.hid (fun W (hb : Below W1.heap.size W1 W) => rleft_any W r S G (hrd.below hb))
  have d1 : decide ((f : Int) < 0) = false := by simp
  have d2 : decide ((15 : Int) < (f : Int)) = false := by simp; omega
  have d3 : decide (Dk.leftOf S < (s.size : Int)) = true := by simp; omega
  clear h hc hl hg hbA hoff hbx hrd hroom
  unfold ptr
  go_enter Try.func47, Try.ntmps47
  go_upto_region 1 with fail
  clear hW1 hbc
  go_wp2_with fail
  refine wp_region_still' (by kernel_rfl) (by kernel_rfl) ?_
  iterate 8 still_step
  still_call ((HLF.out _ (bel_drew _)).mono (fun e w h => ⟨h.1, h.2.symm⟩))
  repeat still_step
  refine wpStill_nil ?_
  go_wp2_with fail
  go_ret
  exact ⟨rfl, bel_trans HBA.out (bel_drew _)⟩

theorem rchange_range (w : World) (r : Nat) (S : Dk.St) (G : Nat → Prop) (h : RDAt w r S G) (f : Nat) (n : Int) (hf : f < 16) (hoff : S.off = false) (hbad : n < 0 ∨ ((Dk.at' S.now f).size : Int) < n) :
    Calls Try.prog 47 #[ptr r 0, .agg #[.int .i64 2, .int .i64 (f : Int), .int .i64 n, .string ⟨#[]⟩]] w fun e w' => e = .returned (.int .i64 5) ∧ Below w.heap.size w w' := by
  have hbA := bel_alloc w (.cells #[.int .i64 2, .int .i64 (f : Int), .int .i64 n, .string ⟨#[]⟩] 82)
  have hbx := heap_alloc_new w (.cells #[.int .i64 2, .int .i64 (f : Int), .int .i64 n, .string ⟨#[]⟩] 82)
  obtain ⟨lo, hc, hl, hg⟩ := (h.below hbA).cells
  obtain ⟨-, c34, -⟩ := diskC_rest h.ok lo
  have c34 := cells_at hc 34 _ c34
  rw [hoff] at c34
  have hcn := rcell_now h.ok hc f hf
  obtain ⟨fv, hfv⟩ : ∃ fv, Dk.at' S.now f = fv := ⟨_, rfl⟩
  rw [hfv] at hcn hbad
  have hrl1 := (Array.getElem?_eq_some_iff.1 hc).1
  obtain ⟨bc, hbc⟩ : ∃ b, w.heap.size = b := ⟨_, rfl⟩
  obtain ⟨W1, hW1⟩ : ∃ W, w.alloc (.cells #[.int .i64 2, .int .i64 (f : Int), .int .i64 n, .string ⟨#[]⟩] 82) = W := ⟨_, rfl⟩
  rw [hW1] at hbA c34 hbx hcn hrl1
  rw [hbc] at hbx
  have x0 := cells_at hbx 0 _ rfl
  have x1 := cells_at hbx 1 _ rfl
  have x2 := cells_at hbx 2 _ rfl
  simp only [List.getElem_toArray, List.getElem_cons_zero, List.getElem_cons_succ] at x0 x1 x2
  have hbcl := (Array.getElem?_eq_some_iff.1 hbx).1
  have HBA := Lib.hid hbA
  have d1 : decide ((f : Int) < 0) = false := by simp
  have d2 : decide ((15 : Int) < (f : Int)) = false := by simp; omega
  have hf16 : (f : Int) < 16 := by omega
  clear h hc hl hg hbA hoff hbx hfv
  unfold ptr
  by_cases h1 : n < 0
  · have d3 : decide (n < 0) = true := by simpa using h1
    clear hbad h1
    go_enter Try.func47, Try.ntmps47
    go_upto_region 1 with fail
    clear hW1 hbc
    go_wp2_with fail
    refine wp_region_free [0, 1, 2, 3, 4, 5, 6, 7, 8, 9] 10 (fun W' => Below W1.heap.size W1 W') (by kernel_rfl) (by kernel_rfl) ?_
    change wpYields _ _ _ _ [_, _, _, _, _, _, _, _, _, _] _
    iterate 10 (refine yields_step (fun K hK => ?_); apply Exists.intro; apply And.intro; (first | (apply yields_at rfl; rintro W' hb; have z0 := (hb.cell (p := ⟨bc, 0, none⟩) hbcl).trans x0; go_simp; first | done | rfl) | exact (fun _ _ => .inr ⟨by rfl, rfl⟩)); go_simp; refine hK _ ?_; clear hK K)
    refine yields_nil ?_
    refine anyP_leaf (bel_drew W1) (by kernel_rfl) ?_
    simp only [List.drop_succ_cons, List.drop_zero]
    go_wp2_with fail
    generalize hWa : W1.drew = Wa
    have x0 : Wa.cell? ⟨bc, 0, none⟩ = some (.int .i64 2) := by rw [← hWa]; exact x0
    have x1 : Wa.cell? ⟨bc, 1, none⟩ = some (.int .i64 (f : Int)) := by rw [← hWa]; exact x1
    have x2 : Wa.cell? ⟨bc, 2, none⟩ = some (.int .i64 n) := by rw [← hWa]; exact x2
    have hcn : Wa.cell? ⟨r, 1 + f, none⟩ = some (.string fv) := by rw [← hWa]; exact hcn
    have hrla : r < Wa.heap.size := by rw [← hWa]; exact hrl1
    have hba : Below W1.heap.size W1 Wa := by rw [← hWa]; exact bel_drew _
    have HBAA := Lib.hid hba
    have hbca : bc < Wa.heap.size := by have := hba.size; omega
    clear hWa hba
    refine wp_region_free [0, 1, 2, 3, 4, 5, 6, 7, 8, 9, 10, 11, 12, 13, 14, 15, 16, 17, 18, 19] 20 (fun W' => Below Wa.heap.size Wa W') (by kernel_rfl) (by kernel_rfl) ?_
    change wpYields _ _ _ _ [_, _, _, _, _, _, _, _, _, _, _, _, _, _, _, _, _, _, _, _] _
    iterate 20 (refine yields_step (fun K hK => ?_); apply Exists.intro; apply And.intro; (first | (apply yields_at rfl; rintro W' hb; have z0 := (hb.cell (p := ⟨bc, 0, none⟩) hbca).trans x0; have z1 := (hb.cell (p := ⟨bc, 1, none⟩) hbca).trans x1; have z2 := (hb.cell (p := ⟨bc, 2, none⟩) hbca).trans x2; have zn := (hb.cell (p := ⟨r, 1 + f, none⟩) hrla).trans hcn; go_simp; first | done | rfl) | exact (fun _ _ => .inr ⟨by rfl, rfl⟩)); go_simp; refine hK _ ?_; clear hK K)
    refine yields_nil ?_
    refine anyP_leaf (bel_drew Wa) (by kernel_rfl) ?_
    simp only [List.drop_succ_cons, List.drop_zero]
    go_wp2_with fail
    go_ret
    exact ⟨rfl, bel_trans HBA.out (bel_trans HBAA.out (bel_drew _))⟩
  · have d3 : decide (n < 0) = false := by simpa using h1
    have d4 : decide ((fv.size : Int) < n) = true := by simp; omega
    clear hbad h1
    go_enter Try.func47, Try.ntmps47
    go_upto_region 1 with fail
    clear hW1 hbc
    go_wp2_with fail
    refine wp_region_free [0, 1, 2, 3, 4, 5, 6, 7, 8, 9] 10 (fun W' => Below W1.heap.size W1 W') (by kernel_rfl) (by kernel_rfl) ?_
    change wpYields _ _ _ _ [_, _, _, _, _, _, _, _, _, _] _
    iterate 10 (refine yields_step (fun K hK => ?_); apply Exists.intro; apply And.intro; (first | (apply yields_at rfl; rintro W' hb; have z0 := (hb.cell (p := ⟨bc, 0, none⟩) hbcl).trans x0; go_simp; first | done | rfl) | exact (fun _ _ => .inr ⟨by rfl, rfl⟩)); go_simp; refine hK _ ?_; clear hK K)
    refine yields_nil ?_
    refine anyP_leaf (bel_drew W1) (by kernel_rfl) ?_
    simp only [List.drop_succ_cons, List.drop_zero]
    go_wp2_with fail
    generalize hWa : W1.drew = Wa
    have x0 : Wa.cell? ⟨bc, 0, none⟩ = some (.int .i64 2) := by rw [← hWa]; exact x0
    have x1 : Wa.cell? ⟨bc, 1, none⟩ = some (.int .i64 (f : Int)) := by rw [← hWa]; exact x1
    have x2 : Wa.cell? ⟨bc, 2, none⟩ = some (.int .i64 n) := by rw [← hWa]; exact x2
    have hcn : Wa.cell? ⟨r, 1 + f, none⟩ = some (.string fv) := by rw [← hWa]; exact hcn
    have hrla : r < Wa.heap.size := by rw [← hWa]; exact hrl1
    have hba : Below W1.heap.size W1 Wa := by rw [← hWa]; exact bel_drew _
    have HBAA := Lib.hid hba
    have hbca : bc < Wa.heap.size := by have := hba.size; omega
    clear hWa hba
    refine wp_region_free [0, 1, 2, 3, 4, 5, 6, 7, 8, 9, 10, 11, 12, 13, 14, 15, 16, 17, 18, 19] 20 (fun W' => Below Wa.heap.size Wa W') (by kernel_rfl) (by kernel_rfl) ?_
    change wpYields _ _ _ _ [_, _, _, _, _, _, _, _, _, _, _, _, _, _, _, _, _, _, _, _] _
    iterate 20 (refine yields_step (fun K hK => ?_); apply Exists.intro; apply And.intro; (first | (apply yields_at rfl; rintro W' hb; have z0 := (hb.cell (p := ⟨bc, 0, none⟩) hbca).trans x0; have z1 := (hb.cell (p := ⟨bc, 1, none⟩) hbca).trans x1; have z2 := (hb.cell (p := ⟨bc, 2, none⟩) hbca).trans x2; have zn := (hb.cell (p := ⟨r, 1 + f, none⟩) hrla).trans hcn; go_simp; first | done | rfl) | exact (fun _ _ => .inr ⟨by rfl, rfl⟩)); go_simp; refine hK _ ?_; clear hK K)
    refine yields_nil ?_
    refine anyP_leaf (bel_drew Wa) (by kernel_rfl) ?_
    simp only [List.drop_succ_cons, List.drop_zero]
    go_wp2_with fail
    go_ret
    exact ⟨rfl, bel_trans HBA.out (bel_trans HBAA.out (bel_drew _))⟩

theorem rappend_any (w : World) (r : Nat) (S : Dk.St) (G : Nat → Prop) (h : RDAt w r S G) (f : Int) (s : ByteArray) (hm : S.loose.length ≤ 1000000000) :
    Calls Try.prog 37 #[ptr r 0, .int .i64 f, .string s] w fun e w' => e = .returned (.int .i64 (Dk.append S f s).1) ∧ RTurned w w' r (Dk.append S f s).2 G := by
  have hcall : Calls Try.prog 47 #[ptr r 0, .agg #[.int .i64 1, .int .i64 f, .int .i64 0, .string s]] w fun e w' => e = .returned (.int .i64 (Dk.append S f s).1) ∧ RTurned w w' r (Dk.append S f s).2 G := by
    unfold Dk.append
    by_cases hr : Dk.ready S [f] = 0
    · rw [if_neg (by simpa using hr)]
      obtain ⟨hoff, hr1⟩ := Dk.ready_one hr
      obtain ⟨m, rfl⟩ : ∃ m : Nat, f = m := ⟨f.toNat, by omega⟩
      rw [Int.toNat_natCast]
      by_cases hl : Dk.leftOf S < (s.size : Int)
      · rw [if_pos hl]
        exact (rchange_full w r S G h m (by omega) s hoff hl).mono fun e w' ⟨h1, h2⟩ => ⟨h1, RTurned.below h h2⟩
      · rw [if_neg hl]
        exact rchange_app w r S G h m (by omega) s hoff (by omega) hm
    · rw [if_pos hr]
      by_cases hoff : S.off = true
      · have hx : Dk.ready S [f] = 50 := by unfold Dk.ready; rw [if_pos hoff]
        rw [hx]
        exact (rchange_off w r S G h 1 f 0 s hoff).mono fun e w' ⟨h1, h2⟩ => ⟨h1, RTurned.below h h2⟩
      · have ho : S.off = false := by simpa using hoff
        have hx : Dk.ready S [f] = Dk.argE [f] := by unfold Dk.ready; rw [ho]; rfl
        have hb : ¬ [f].all Dk.isF = true := fun e => hr (by rw [hx]; exact Dk.argE_ok e)
        rw [hx, Dk.argE_bad hb]
        refine (rchange_arg w r S G h 1 f 0 s ho ?_).mono fun e w' ⟨h1, h2⟩ => ⟨h1, RTurned.below h h2⟩
        simp [Dk.isF] at hb
        omega
  have HC := Lib.hid hcall
  clear hcall h
  unfold ptr at HC ⊢
  go_enter Try.func37, Try.ntmps37
  go_wp2_with fail
  refine HC.out.mono ?_
  rintro e w' ⟨rfl, ht⟩
  have HT := Lib.hid ht
  clear ht
  go_wp2_with fail
  go_ret
  exact ⟨rfl, HT.out⟩

theorem rcut_any (w : World) (r : Nat) (S : Dk.St) (G : Nat → Prop) (h : RDAt w r S G) (f n : Int) (hm : S.loose.length ≤ 1000000000) :
    Calls Try.prog 38 #[ptr r 0, .int .i64 f, .int .i64 n] w fun e w' => e = .returned (.int .i64 (Dk.cut S f n).1) ∧ RTurned w w' r (Dk.cut S f n).2 G := by
  have hcall : Calls Try.prog 47 #[ptr r 0, .agg #[.int .i64 2, .int .i64 f, .int .i64 n, .string ⟨#[]⟩]] w fun e w' => e = .returned (.int .i64 (Dk.cut S f n).1) ∧ RTurned w w' r (Dk.cut S f n).2 G := by
    unfold Dk.cut
    by_cases hr : Dk.ready S [f] = 0
    · rw [if_neg (by simpa using hr)]
      obtain ⟨hoff, hr1⟩ := Dk.ready_one hr
      obtain ⟨m, rfl⟩ : ∃ m : Nat, f = m := ⟨f.toNat, by omega⟩
      rw [Int.toNat_natCast]
      by_cases hl : n < 0 ∨ ((Dk.at' S.now m).size : Int) < n
      · rw [if_pos hl]
        exact (rchange_range w r S G h m n (by omega) hoff hl).mono fun e w' ⟨h1, h2⟩ => ⟨h1, RTurned.below h h2⟩
      · rw [if_neg hl]
        obtain ⟨q, rfl⟩ : ∃ q : Nat, n = q := ⟨n.toNat, by omega⟩
        rw [Int.toNat_natCast]
        exact rchange_cut w r S G h m q (by omega) hoff (by omega) hm
    · rw [if_pos hr]
      by_cases hoff : S.off = true
      · have hx : Dk.ready S [f] = 50 := by unfold Dk.ready; rw [if_pos hoff]
        rw [hx]
        exact (rchange_off w r S G h 2 f n _ hoff).mono fun e w' ⟨h1, h2⟩ => ⟨h1, RTurned.below h h2⟩
      · have ho : S.off = false := by simpa using hoff
        have hx : Dk.ready S [f] = Dk.argE [f] := by unfold Dk.ready; rw [ho]; rfl
        have hb : ¬ [f].all Dk.isF = true := fun e => hr (by rw [hx]; exact Dk.argE_ok e)
        rw [hx, Dk.argE_bad hb]
        refine (rchange_arg w r S G h 2 f n _ ho ?_).mono fun e w' ⟨h1, h2⟩ => ⟨h1, RTurned.below h h2⟩
        simp [Dk.isF] at hb
        omega
  have HC := Lib.hid hcall
  clear hcall h
  unfold ptr at HC ⊢
  go_enter Try.func38, Try.ntmps38
  go_wp2_with fail
  refine HC.out.mono ?_
  rintro e w' ⟨rfl, ht⟩
  have HT := Lib.hid ht
  clear ht
  go_wp2_with fail
  go_ret
  exact ⟨rfl, HT.out⟩

theorem rmove_any (w : World) (r : Nat) (S : Dk.St) (G : Nat → Prop) (h : RDAt w r S G) (a b : Int) (hm : S.loose.length ≤ 1000000000) :
    Calls Try.prog 39 #[ptr r 0, .int .i64 a, .int .i64 b] w fun e w' => e = .returned (.int .i64 (Dk.move S a b).1) ∧ RTurned w w' r (Dk.move S a b).2 G := by
  have hcall : Calls Try.prog 47 #[ptr r 0, .agg #[.int .i64 3, .int .i64 a, .int .i64 b, .string ⟨#[]⟩]] w fun e w' => e = .returned (.int .i64 (Dk.move S a b).1) ∧ RTurned w w' r (Dk.move S a b).2 G := by
    unfold Dk.move
    by_cases hr : Dk.ready S [a, b] = 0
    · rw [if_neg (by simpa using hr)]
      obtain ⟨hoff, hr1, hr2⟩ := Dk.ready_two hr
      obtain ⟨m, rfl⟩ : ∃ m : Nat, a = m := ⟨a.toNat, by omega⟩
      obtain ⟨q, rfl⟩ : ∃ q : Nat, b = q := ⟨b.toNat, by omega⟩
      rw [Int.toNat_natCast, Int.toNat_natCast]
      by_cases hl : (m : Int) = (q : Int)
      · rw [if_pos hl]
        exact (rchange_arg w r S G h 3 m q _ hoff (.inr (.inr ⟨rfl, .inr (.inr hl.symm)⟩))).mono fun e w' ⟨h1, h2⟩ => ⟨h1, RTurned.below h h2⟩
      · rw [if_neg hl]
        exact rchange_mov w r S G h m q (by omega) (by omega) (by omega) hoff hm
    · rw [if_pos hr]
      by_cases hoff : S.off = true
      · have hx : Dk.ready S [a, b] = 50 := by unfold Dk.ready; rw [if_pos hoff]
        rw [hx]
        exact (rchange_off w r S G h 3 a b _ hoff).mono fun e w' ⟨h1, h2⟩ => ⟨h1, RTurned.below h h2⟩
      · have ho : S.off = false := by simpa using hoff
        have hx : Dk.ready S [a, b] = Dk.argE [a, b] := by unfold Dk.ready; rw [ho]; rfl
        have hb : ¬ [a, b].all Dk.isF = true := fun e => hr (by rw [hx]; exact Dk.argE_ok e)
        rw [hx, Dk.argE_bad hb]
        refine (rchange_arg w r S G h 3 a b _ ho ?_).mono fun e w' ⟨h1, h2⟩ => ⟨h1, RTurned.below h h2⟩
        simp [Dk.isF] at hb
        omega
  have HC := Lib.hid hcall
  clear hcall h
  unfold ptr at HC ⊢
  go_enter Try.func39, Try.ntmps39
  go_wp2_with fail
  refine HC.out.mono ?_
  rintro e w' ⟨rfl, ht⟩
  have HT := Lib.hid ht
  clear ht
  go_wp2_with fail
  go_ret
  exact ⟨rfl, HT.out⟩

end Go.Proofs.Ytdnjmihalmhddaa
