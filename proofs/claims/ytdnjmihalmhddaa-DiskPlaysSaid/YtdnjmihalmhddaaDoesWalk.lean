/-
  Does walked.
-/
import Derived.Test.YtdnjmihalmhddaaBothDisk
import Derived.Deep.CutRange
namespace Go.Proofs.Ytdnjmihalmhddaa
open Go.RowKit

set_option maxHeartbeats 8000000 in
set_option maxRecDepth 100000 in
theorem does_any {w0 w : World} {d r : Nat} {S : Dk.St} (h : BothD w0 w d r S S (fun _ => False)) (k f n m : Int) (s : ByteArray) (hm : S.loose.length ≤ 1000000000) (hn : n ≤ 9223372036854775807) :
    Calls Try.prog 23 #[ptr d 0, ptr r 0, .agg #[.int .i64 k, .int .i64 f, .int .i64 n, .int .i64 m, .string s]] w fun e w' => e = .returned (.bool true) ∧ BothD w0 w' d r (stepOp S ⟨k, f, n, m, s⟩) (stepOp S ⟨k, f, n, m, s⟩) (fun _ => False) := by
  have hVo := heap_alloc_new w (.cells #[.int .i64 k, .int .i64 f, .int .i64 n, .int .i64 m, .string s] 42)
  have hSV := (h.grow (bel_alloc w (.cells #[.int .i64 k, .int .i64 f, .int .i64 n, .int .i64 m, .string s] 42))).less (K' := fun x => x = w.heap.size) (fun x hx => .inr ⟨Nat.le_of_eq hx.symm, by rw [hx]; simp⟩)
  obtain ⟨V, hV⟩ : ∃ V, w.alloc (.cells #[.int .i64 k, .int .i64 f, .int .i64 n, .int .i64 m, .string s] 42) = V := ⟨_, rfl⟩
  obtain ⟨bo, hbo⟩ : ∃ b, w.heap.size = b := ⟨_, rfl⟩
  rw [hV] at hVo hSV
  rw [hbo] at hVo hSV
  have x0 := cells_at hVo 0 _ rfl
  have x1 := cells_at hVo 1 _ rfl
  have x2 := cells_at hVo 2 _ rfl
  have x3 := cells_at hVo 3 _ rfl
  have x4 := cells_at hVo 4 _ rfl
  simp only [List.getElem_toArray, List.getElem_cons_zero, List.getElem_cons_succ] at x0 x1 x2 x3 x4
  have HVO := Lib.hid hVo
  have HSV := Lib.hid hSV
  clear h hVo hSV
  unfold ptr
  by_cases h0 : k = 0
  · subst h0
    have hres : stepOp S ⟨0, f, n, m, s⟩ = (Dk.append S f s).2 := by simp [stepOp]
    rw [hres]
    have HRS := Lib.hid hres
    clear hres
    go_enter Try.func23, Try.ntmps23
    go_upto_region 1 with fail
    clear hV
    go_wp2_with fail
    refine wp_region_free [0, 1, 2, 3, 4, 6, 7, 8, 9, 10] 12 (fun W' => W'.heap[bo]? = some (.cells #[.int .i64 0, .int .i64 f, .int .i64 n, .int .i64 m, .string s] 42)) (by kernel_rfl) (by kernel_rfl) ?_
    change wpYields _ _ _ _ [_, _, _, _, _, _, _, _, _, _] _
    iterate 10 (refine yields_step (fun K hK => ?_); apply Exists.intro; apply And.intro; (apply yields_at rfl; rintro W' hb; have c1 := cells_at hb 1 _ rfl; have c2 := cells_at hb 2 _ rfl; have c4 := cells_at hb 4 _ rfl; simp only [List.getElem_toArray, List.getElem_cons_zero, List.getElem_cons_succ] at c1 c2 c4; go_simp; first | done | rfl); go_simp; refine hK _ ?_; clear hK K)
    refine yields_nil ?_
    refine anyP_one (k := 5) (by kernel_rfl) (by decide) rfl rfl HVO.out ?_
    refine wpP_step rfl (fun K hK => ?_)
    go_simp
    go_at_call 11
    refine (bd_append (HSV.out.below (bel_drew V)) f s hm).mono ?_
    rintro e w5 ⟨rfl, h5, hk5⟩
    have hVO5 : w5.heap[bo]? = _ := (hk5 bo rfl).trans HVO.out
    refine hK _ _ ?_
    clear hK K
    refine anyP_one (k := 11) (by kernel_rfl) (by decide) rfl rfl hVO5 ?_
    refine wpP_step rfl (fun K hK => ?_)
    go_simp
    go_at_call 37
    refine (br_append h5 f s hm).mono ?_
    rintro e w6 ⟨rfl, h6, hk6⟩
    have hVO6 : w6.heap[bo]? = _ := (hk6 bo rfl).trans hVO5
    have H6 := Lib.hid (h6.less (K' := fun _ => False) (fun _ h => h.elim))
    refine hK _ _ ?_
    clear hK K
    refine anyP_leaf hVO6 (by kernel_rfl) ?_
    simp only [List.drop_succ_cons, List.drop_zero]
    clear h5 hk5 h6 hk6 hVO5 hVO6
    go_wp2_with fail
    go_ret
    exact ⟨by simp, H6.out⟩
  by_cases h1 : k = 1
  · subst h1
    clear h0
    have hres : stepOp S ⟨1, f, n, m, s⟩ = (Dk.cut S f n).2 := by simp [stepOp]
    rw [hres]
    have HRS := Lib.hid hres
    clear hres
    go_enter Try.func23, Try.ntmps23
    go_upto_region 1 with fail
    clear hV
    go_wp2_with fail
    refine wp_region_free [0, 1, 2, 3, 4, 6, 7, 8, 9, 10] 12 (fun W' => W'.heap[bo]? = some (.cells #[.int .i64 1, .int .i64 f, .int .i64 n, .int .i64 m, .string s] 42)) (by kernel_rfl) (by kernel_rfl) ?_
    change wpYields _ _ _ _ [_, _, _, _, _, _, _, _, _, _] _
    iterate 10 (refine yields_step (fun K hK => ?_); apply Exists.intro; apply And.intro; (apply yields_at rfl; rintro W' hb; have c1 := cells_at hb 1 _ rfl; have c2 := cells_at hb 2 _ rfl; have c4 := cells_at hb 4 _ rfl; simp only [List.getElem_toArray, List.getElem_cons_zero, List.getElem_cons_succ] at c1 c2 c4; go_simp; first | done | rfl); go_simp; refine hK _ ?_; clear hK K)
    refine yields_nil ?_
    refine anyP_one (k := 5) (by kernel_rfl) (by decide) rfl rfl HVO.out ?_
    refine wpP_step rfl (fun K hK => ?_)
    go_simp
    go_at_call 18
    refine (bd_cut (HSV.out.below (bel_drew V)) f n hm).mono ?_
    rintro e w5 ⟨rfl, h5, hk5⟩
    have hVO5 : w5.heap[bo]? = _ := (hk5 bo rfl).trans HVO.out
    refine hK _ _ ?_
    clear hK K
    refine anyP_one (k := 11) (by kernel_rfl) (by decide) rfl rfl hVO5 ?_
    refine wpP_step rfl (fun K hK => ?_)
    go_simp
    go_at_call 38
    refine (br_cut h5 f n hm).mono ?_
    rintro e w6 ⟨rfl, h6, hk6⟩
    have hVO6 : w6.heap[bo]? = _ := (hk6 bo rfl).trans hVO5
    have H6 := Lib.hid (h6.less (K' := fun _ => False) (fun _ h => h.elim))
    refine hK _ _ ?_
    clear hK K
    refine anyP_leaf hVO6 (by kernel_rfl) ?_
    simp only [List.drop_succ_cons, List.drop_zero]
    clear h5 hk5 h6 hk6 hVO5 hVO6
    go_wp2_with fail
    go_ret
    exact ⟨by simp, H6.out⟩
  by_cases h2 : k = 2
  · subst h2
    clear h0 h1
    have hres : stepOp S ⟨2, f, n, m, s⟩ = (Dk.move S f n).2 := by simp [stepOp]
    rw [hres]
    have HRS := Lib.hid hres
    clear hres
    go_enter Try.func23, Try.ntmps23
    go_upto_region 1 with fail
    clear hV
    go_wp2_with fail
    refine wp_region_free [0, 1, 2, 3, 4, 6, 7, 8, 9, 10] 12 (fun W' => W'.heap[bo]? = some (.cells #[.int .i64 2, .int .i64 f, .int .i64 n, .int .i64 m, .string s] 42)) (by kernel_rfl) (by kernel_rfl) ?_
    change wpYields _ _ _ _ [_, _, _, _, _, _, _, _, _, _] _
    iterate 10 (refine yields_step (fun K hK => ?_); apply Exists.intro; apply And.intro; (apply yields_at rfl; rintro W' hb; have c1 := cells_at hb 1 _ rfl; have c2 := cells_at hb 2 _ rfl; have c4 := cells_at hb 4 _ rfl; simp only [List.getElem_toArray, List.getElem_cons_zero, List.getElem_cons_succ] at c1 c2 c4; go_simp; first | done | rfl); go_simp; refine hK _ ?_; clear hK K)
    refine yields_nil ?_
    refine anyP_one (k := 5) (by kernel_rfl) (by decide) rfl rfl HVO.out ?_
    refine wpP_step rfl (fun K hK => ?_)
    go_simp
    go_at_call 12
    refine (bd_move (HSV.out.below (bel_drew V)) f n hm).mono ?_
    rintro e w5 ⟨rfl, h5, hk5⟩
    have hVO5 : w5.heap[bo]? = _ := (hk5 bo rfl).trans HVO.out
    refine hK _ _ ?_
    clear hK K
    refine anyP_one (k := 11) (by kernel_rfl) (by decide) rfl rfl hVO5 ?_
    refine wpP_step rfl (fun K hK => ?_)
    go_simp
    go_at_call 39
    refine (br_move h5 f n hm).mono ?_
    rintro e w6 ⟨rfl, h6, hk6⟩
    have hVO6 : w6.heap[bo]? = _ := (hk6 bo rfl).trans hVO5
    have H6 := Lib.hid (h6.less (K' := fun _ => False) (fun _ h => h.elim))
    refine hK _ _ ?_
    clear hK K
    refine anyP_leaf hVO6 (by kernel_rfl) ?_
    simp only [List.drop_succ_cons, List.drop_zero]
    clear h5 hk5 h6 hk6 hVO5 hVO6
    go_wp2_with fail
    go_ret
    exact ⟨by simp, H6.out⟩
  by_cases h3 : k = 3
  · subst h3
    clear h0 h1 h2
    have hres : stepOp S ⟨3, f, n, m, s⟩ = (Dk.sync S).2 := by simp [stepOp]
    rw [hres]
    have HRS := Lib.hid hres
    clear hres
    go_enter Try.func23, Try.ntmps23
    go_upto_region 1 with fail
    clear hV
    go_wp2_with fail
    refine (bd_sync HSV.out).mono ?_
    rintro e w5 ⟨rfl, h5, hk5⟩
    have H5 := Lib.hid h5
    clear h5 hk5
    go_wp2_with fail
    refine (br_sync H5.out).mono ?_
    rintro e w6 ⟨rfl, h6, hk6⟩
    have H6 := Lib.hid (h6.less (K' := fun _ => False) (fun _ h => h.elim))
    clear h6 hk6
    go_wp2_with fail
    go_ret
    exact ⟨by simp, H6.out⟩
  by_cases h4 : k = 4
  · subst h4
    clear h0 h1 h2 h3
    have hres : stepOp S ⟨4, f, n, m, s⟩ = S := by simp [stepOp]
    rw [hres]
    have HRS := Lib.hid hres
    clear hres
    go_enter Try.func23, Try.ntmps23
    go_upto_region 1 with fail
    clear hV
    go_wp2_with fail
    refine (bd_read HSV.out f).mono ?_
    rintro e w5 ⟨rfl, hb5⟩
    have H5 := Lib.hid (HSV.out.below hb5)
    have hVO5 : w5.heap[bo]? = _ := (hb5.block bo (Array.getElem?_eq_some_iff.1 HVO.out).1).trans HVO.out
    have y1 := cells_at hVO5 1 _ rfl
    simp only [List.getElem_toArray, List.getElem_cons_zero, List.getElem_cons_succ] at y1
    clear hb5 hVO5
    go_wp2_with fail
    refine (br_read H5.out f).mono ?_
    rintro e w6 ⟨rfl, rfl⟩
    obtain ⟨rv, hrv⟩ : ∃ x, (Dk.read S f).1 = x := ⟨_, rfl⟩
    obtain ⟨re, hre⟩ : ∃ x, (Dk.read S f).2 = x := ⟨_, rfl⟩
    rw [hrv, hre]
    clear hrv hre
    go_wp2_with fail
    go_ret
    exact ⟨by simp, H5.out.less (fun _ h => h.elim)⟩
  by_cases h5 : k = 5
  · subst h5
    clear h0 h1 h2 h3 h4
    have hres : stepOp S ⟨5, f, n, m, s⟩ = (Dk.power S n).2 := by simp [stepOp]
    rw [hres]
    have HRS := Lib.hid hres
    clear hres
    go_enter Try.func23, Try.ntmps23
    go_upto_region 1 with fail
    clear hV
    go_wp2_with fail
    refine wp_region_free [0, 1, 2, 4, 5, 6] 8 (fun W' => W'.heap[bo]? = some (.cells #[.int .i64 5, .int .i64 f, .int .i64 n, .int .i64 m, .string s] 42)) (by kernel_rfl) (by kernel_rfl) ?_
    change wpYields _ _ _ _ [_, _, _, _, _, _] _
    iterate 6 (refine yields_step (fun K hK => ?_); apply Exists.intro; apply And.intro; (apply yields_at rfl; rintro W' hb; have c1 := cells_at hb 1 _ rfl; have c2 := cells_at hb 2 _ rfl; have c4 := cells_at hb 4 _ rfl; simp only [List.getElem_toArray, List.getElem_cons_zero, List.getElem_cons_succ] at c1 c2 c4; go_simp; first | done | rfl); go_simp; refine hK _ ?_; clear hK K)
    refine yields_nil ?_
    refine anyP_one (k := 3) (by kernel_rfl) (by decide) rfl rfl HVO.out ?_
    refine wpP_step rfl (fun K hK => ?_)
    go_simp
    go_at_call 16
    refine (bd_power (HSV.out.below (bel_drew V)) n hn).mono ?_
    rintro e w5 ⟨rfl, h5, hk5⟩
    have hVO5 : w5.heap[bo]? = _ := (hk5 bo rfl).trans HVO.out
    refine hK _ _ ?_
    clear hK K
    refine anyP_one (k := 7) (by kernel_rfl) (by decide) rfl rfl hVO5 ?_
    refine wpP_step rfl (fun K hK => ?_)
    go_simp
    go_at_call 41
    refine (br_power h5 n hn).mono ?_
    rintro e w6 ⟨rfl, h6, hk6⟩
    have hVO6 : w6.heap[bo]? = _ := (hk6 bo rfl).trans hVO5
    have H6 := Lib.hid (h6.less (K' := fun _ => False) (fun _ h => h.elim))
    refine hK _ _ ?_
    clear hK K
    refine anyP_leaf hVO6 (by kernel_rfl) ?_
    simp only [List.drop_succ_cons, List.drop_zero]
    clear h5 hk5 h6 hk6 hVO5 hVO6
    go_wp2_with fail
    go_ret
    exact ⟨by simp, H6.out⟩
  by_cases h6 : k = 6
  · subst h6
    clear h0 h1 h2 h3 h4 h5
    have hres : stepOp S ⟨6, f, n, m, s⟩ = Dk.crash S n m := by simp [stepOp]
    rw [hres]
    have HRS := Lib.hid hres
    clear hres
    go_enter Try.func23, Try.ntmps23
    go_upto_region 1 with fail
    clear hV
    go_wp2_with fail
    refine (bd_crash HSV.out n m).mono ?_
    rintro e w5 ⟨rfl, h5, hk5⟩
    have hVO5 : w5.heap[bo]? = _ := (hk5 bo rfl).trans HVO.out
    have y2 := cells_at hVO5 2 _ rfl
    have y3 := cells_at hVO5 3 _ rfl
    simp only [List.getElem_toArray, List.getElem_cons_zero, List.getElem_cons_succ] at y2 y3
    have H5 := Lib.hid h5
    clear h5 hk5 hVO5
    go_wp2_with fail
    refine (br_crash H5.out n m).mono ?_
    rintro e w6 ⟨rfl, h6, hk6⟩
    have H6 := Lib.hid (h6.less (K' := fun _ => False) (fun _ h => h.elim))
    clear h6 hk6
    go_wp2_with fail
    go_ret
    exact ⟨rfl, H6.out⟩
  have q0 : (k == 0) = false := by simpa using h0
  have q1 : (k == 1) = false := by simpa using h1
  have q2 : (k == 2) = false := by simpa using h2
  have q3 : (k == 3) = false := by simpa using h3
  have q4 : (k == 4) = false := by simpa using h4
  have q5 : (k == 5) = false := by simpa using h5
  have q6 : (k == 6) = false := by simpa using h6
  have hres : stepOp S ⟨k, f, n, m, s⟩ = S := by simp [stepOp, h0, h1, h2, h3, h5, h6]
  rw [hres]
  clear hres h0 h1 h2 h3 h4 h5 h6
  go_enter Try.func23, Try.ntmps23
  go_upto_region 1 with fail
  clear hV
  go_wp2_with fail
  go_ret
  exact ⟨rfl, HSV.out.less (fun _ h => h.elim)⟩

end Go.Proofs.Ytdnjmihalmhddaa
