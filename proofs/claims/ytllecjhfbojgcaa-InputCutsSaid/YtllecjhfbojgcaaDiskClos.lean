/-
  The changes' closures walked.
-/
import Derived.Test.YtllecjhfbojgcaaDiskCalls3
import Derived.StillTailTactics
namespace Go.Proofs.Ytllecjhfbojgcaa
open Go.RowKit
set_option maxRecDepth 20000

/-- Files, wherever they lie. -/
def FilesAt (w : World) (b o : Nat) (fs : Dk.Files) : Prop := ∀ i, i < 16 → w.cell? ⟨b, o + i, none⟩ = some (.string (Dk.at' fs i)) ∧ w.frozen? ⟨b, o + i, none⟩ = false

theorem part_any (w : World) (b o : Nat) (fs : Dk.Files) (hf : FilesAt w b o fs) (f : Nat) (hf16 : f < 16) (s : ByteArray) (x y : Nat) (n : Int)
    (hx : w.heap[x]? = some (.cells #[.int .i64 (f : Int)] 3)) (hy : w.heap[y]? = some (.cells #[.string s] 9)) (hs : s.size ≤ 4194304) (hz : (Dk.at' fs f).size ≤ 4194304) :
    Calls Try.prog 90 #[ptr b o, .int .i64 n, ptr x 0, ptr y 0] w fun e w' => e = .returned (.tuple #[]) ∧ w' = (w.setCell ⟨b, o + f, none⟩ (.string (Dk.at' fs f ++ s.extract 0 (Dk.clip n s.size)))).drew := by
  obtain ⟨hc, hfr⟩ := hf f hf16
  have cx := cells_at hx 0 _ rfl
  have cy := cells_at hy 0 _ rfl
  simp only [List.getElem_toArray, List.getElem_cons_zero] at cx cy
  obtain ⟨fv, hfv⟩ : ∃ fv, Dk.at' fs f = fv := ⟨_, rfl⟩
  rw [hfv] at hc hz ⊢
  have hfi : (f : Int) < 16 := by omega
  have hs0 : ((s.size : Int) < 0) = False := by simp
  have hs1 : ((0 : Int) ≤ (s.size : Int)) = True := by simp
  have hs2 : ((s.size : Int) ≤ (s.size : Int)) = True := by simp
  clear hf hx hy hfv
  unfold ptr
  by_cases h1 : (s.size : Int) < n
  · have hk : Dk.clip n s.size = s.size := by unfold Dk.clip; omega
    rw [hk, Dk.extract_all]
    have hsum : (9223372036854775807 < fv.size + s.size) = False := by simp; omega
    clear hk
    go_enter Try.func90, Try.ntmps90
    go_wp2_with fail
    refine wp_region_still_tail 15 (by kernel_rfl) (by kernel_rfl) ?_
    simp only [List.take_succ_cons, List.take_zero, List.drop_succ_cons, List.drop_zero]
    change wpStill _ _ w.drew (fun a' => wpList _ _ _ _ a' w.drew) _ _
    repeat still_step
    refine wpStill_nil ?_
    go_wp2_with fail
    go_end0
    exact ⟨rfl, rfl⟩
  · have h1 : ((s.size : Int) < n) = False := by simpa using h1
    by_cases h2 : n < 0
    · have hk : Dk.clip n s.size = 0 := by unfold Dk.clip; omega
      rw [hk]
      have hsum : (9223372036854775807 < fv.size) = False := by simp; omega
      have he : fv ++ s.extract 0 0 = fv := by simp
      rw [he]
      clear he
      clear hk
      go_enter Try.func90, Try.ntmps90
      go_wp2_with fail
      refine wp_region_still_tail 15 (by kernel_rfl) (by kernel_rfl) ?_
      simp only [List.take_succ_cons, List.take_zero, List.drop_succ_cons, List.drop_zero]
      change wpStill _ _ w.drew (fun a' => wpList _ _ _ _ a' w.drew) _ _
      repeat still_step
      refine wpStill_nil ?_
      go_wp2_with fail
      go_end0
      exact ⟨rfl, rfl⟩
    · obtain ⟨m, rfl⟩ : ∃ m : Nat, n = m := ⟨n.toNat, by omega⟩
      have h2 : ((m : Int) < 0) = False := by simp
      have h3 : ((0 : Int) ≤ (m : Int)) = True := by simp
      have h4 : ((m : Int) ≤ (s.size : Int)) = True := by simp at h1 ⊢; omega
      have hk : Dk.clip (m : Int) s.size = m := by simp at h1; unfold Dk.clip; omega
      rw [hk]
      have hsum : (9223372036854775807 < fv.size + min m s.size) = False := by simp; omega
      clear hk
      go_enter Try.func90, Try.ntmps90
      go_wp2_with fail
      refine wp_region_still_tail 15 (by kernel_rfl) (by kernel_rfl) ?_
      simp only [List.take_succ_cons, List.take_zero, List.drop_succ_cons, List.drop_zero]
      change wpStill _ _ w.drew (fun a' => wpList _ _ _ _ a' w.drew) _ _
      repeat still_step
      refine wpStill_nil ?_
      go_wp2_with fail
      go_end0
      exact ⟨rfl, rfl⟩

theorem app_any (w : World) (b o : Nat) (fs : Dk.Files) (hf : FilesAt w b o fs) (f : Nat) (hf16 : f < 16) (s : ByteArray) (x y p : Nat)
    (hx : w.heap[x]? = some (.cells #[.int .i64 (f : Int)] 3)) (hy : w.heap[y]? = some (.cells #[.string s] 9)) (hp : w.heap[p]? = some (.cells #[partV x y] 111)) (hs : s.size ≤ 4194304) (hz : (Dk.at' fs f).size ≤ 4194304) :
    Calls Try.prog 92 #[ptr b o, ptr p 0, ptr y 0] w fun e w' => e = .returned (.tuple #[]) ∧ w' = (w.setCell ⟨b, o + f, none⟩ (.string (Dk.at' fs f ++ s))).drew := by
  have hpart := Lib.hid (part_any w b o fs hf f hf16 s x y s.size hx hy hs hz)
  have cy := cells_at hy 0 _ rfl
  have cp := cells_at hp 0 _ rfl
  simp only [List.getElem_toArray, List.getElem_cons_zero] at cy cp
  unfold partV ptr at cp
  clear hf hx hy hp
  unfold ptr at hpart ⊢
  go_enter Try.func92, Try.ntmps92
  go_wp2_with fail
  refine hpart.out.mono ?_
  rintro e w' ⟨rfl, rfl⟩
  rw [Dk.clip_all, Dk.extract_all]
  go_wp2_with fail
  go_end0
  exact ⟨rfl, rfl⟩

theorem cut_clos (w : World) (b o : Nat) (fs : Dk.Files) (hf : FilesAt w b o fs) (f n : Nat) (hf16 : f < 16) (hn : n ≤ (Dk.at' fs f).size) (x y : Nat)
    (hx : w.heap[x]? = some (.cells #[.int .i64 (f : Int)] 3)) (hy : w.heap[y]? = some (.cells #[.int .i64 (n : Int)] 3)) :
    Calls Try.prog 94 #[ptr b o, ptr x 0, ptr y 0] w fun e w' => e = .returned (.tuple #[]) ∧ w' = (w.setCell ⟨b, o + f, none⟩ (.string ((Dk.at' fs f).extract 0 n))).drew := by
  obtain ⟨hc, hfr⟩ := hf f hf16
  have cx := cells_at hx 0 _ rfl
  have cy := cells_at hy 0 _ rfl
  simp only [List.getElem_toArray, List.getElem_cons_zero] at cx cy
  obtain ⟨fv, hfv⟩ : ∃ fv, Dk.at' fs f = fv := ⟨_, rfl⟩
  rw [hfv] at hc hn ⊢
  have hfi : (f : Int) < 16 := by omega
  have h3 : ((0 : Int) ≤ (n : Int)) = True := by simp
  have h4 : ((n : Int) ≤ (fv.size : Int)) = True := by simp; omega
  clear hf hx hy hfv
  unfold ptr
  go_enter Try.func94, Try.ntmps94
  go_wp2_with fail
  refine wp_region_still_tail 11 (by kernel_rfl) (by kernel_rfl) ?_
  simp only [List.take_succ_cons, List.take_zero, List.drop_succ_cons, List.drop_zero]
  change wpStill _ _ w.drew (fun a' => wpList _ _ _ _ a' w.drew) _ _
  repeat still_step
  refine wpStill_nil ?_
  go_wp2_with fail
  go_end0
  exact ⟨rfl, rfl⟩

end Go.Proofs.Ytllecjhfbojgcaa
