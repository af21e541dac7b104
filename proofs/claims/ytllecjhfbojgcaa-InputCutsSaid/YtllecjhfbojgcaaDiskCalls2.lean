/-
  More of the disk's calls walked: Left, Read, Power, Sync.
-/
import Derived.Test.YtllecjhfbojgcaaDiskCalls
namespace Go.Proofs.Ytllecjhfbojgcaa
open Go.RowKit
set_option maxRecDepth 20000

theorem run_index_files (cs : List Value) (k : Nat) (v : Value) (hk : k < 16) (hv : cs[k]? = some v) (w : World) :
    (Instr.index 89 (.agg cs.toArray) (.int .i64 (k : Int))).run Try.prog w = .ok v w := by
  have h1 : Try.prog.underlying 89 = some (.array 16 9) := Try.underlying89
  have h3 : (sizeOf 9).run Try.prog w = .ok 1 w := by kernel_rfl
  have hc : (0 : Int) ≤ (k : Int) ∧ (k : Int) < ((16 : Nat) : Int) := by omega
  simp [Instr.index, run_underlying h1, asIntOf, hc, h3, part, hv, go_sem, Sem.run_bind]
  omega

def strs (fs : Dk.Files) : List Value := fs.map .string
theorem strs_at (fs : Dk.Files) (i : Nat) (h : i < fs.length) : (strs fs)[i]? = some (.string (Dk.at' fs i)) := by
  unfold strs
  rw [List.getElem?_map, Dk.at_get _ _ h]; rfl
theorem range_now {w : World} {d : Nat} {S : Dk.St} {lv : Value} (h : Dk.Ok S) (hc : w.heap[d]? = some (.cells (diskCells S lv) 92)) : w.rangeAt d 1 (strs S.now) := by
  intro j v hv
  have hj : j < 16 := by
    have := (List.getElem?_eq_some_iff.1 hv).1
    unfold strs at this
    rw [List.length_map, h.nowL] at this
    exact this
  rw [strs_at _ _ (by rw [h.nowL]; exact hj)] at hv
  cases hv
  exact cells_at hc _ _ (by simpa [diskCells] using diskL_now h lv j hj)

theorem total_take (fs : Dk.Files) (k : Nat) (h : k < fs.length) : Dk.total (fs.take (k + 1)) = Dk.total (fs.take k) + (Dk.at' fs k).size := by
  induction fs generalizing k with
  | nil => simp at h
  | cons x fs ih =>
    cases k with
    | zero => simp [Dk.total, Dk.at']
    | succ k =>
      have := ih k (by simpa using h)
      simp only [Dk.total, Dk.at', List.take_succ_cons, List.map_cons, List.foldr_cons, List.getD_cons_succ] at this ⊢
      omega
theorem total_take_le (fs : Dk.Files) (k : Nat) : Dk.total (fs.take k) ≤ Dk.total fs := by
  induction fs generalizing k with
  | nil => simp
  | cons x fs ih =>
    cases k with
    | zero => simp [Dk.total]
    | succ k =>
      have := ih k
      simp only [Dk.total, List.take_succ_cons, List.map_cons, List.foldr_cons] at this ⊢
      omega

theorem info_files (l : List Value) (h : l.length = 16) : (Try.prog.info? 89).map (·.size) = some l.length := by rw [h]; kernel_rfl
theorem left_nil (w : World) : Calls Try.prog 89 #[.pointer none] w fun e w' => e = .returned (.int .i64 0) ∧ w = w' := by
  go_enter Try.func89, Try.ntmps89
  go_wp2_with fail
  go_ret
  exact ⟨rfl, rfl⟩

set_option maxHeartbeats 1000000 in
theorem left_any (w : World) (d : Nat) (S : Dk.St) (F : Nat → Prop) (h : DiskAt w d S F) :
    Calls Try.prog 89 #[ptr d 0] w fun e w' => e = .returned (.int .i64 (Dk.leftOf S)) ∧ w = w' := by
  obtain ⟨lo, hc, hl⟩ := h.cells
  have c0 := cells_at hc 0 (.int .i64 (S.room : Int)) (by simpa [diskCells] using diskL_room S lo)
  have hrg := Lib.hid (range_now h.ok hc)
  have hinfo := Lib.hid (info_files (strs S.now) (by unfold strs; rw [List.length_map, h.ok.nowL]))
  have HT := Lib.hid h.ok.total
  have HN := Lib.hid h.ok.nowL
  have hroom := h.ok.room
  clear h hc hl
  unfold ptr
  go_enter Try.func89, Try.ntmps89
  go_wp2_with (refine wpList_load_mid rfl 89 _ rfl d 1 rfl (strs S.now) _ hrg.out Try.underlying89 rfl hinfo.out ?_)
  go_loop [3, 16] (fun n i => ∃ k : Nat, k ≤ 16 ∧ i = .int .i64 k ∧ n = .int .i64 ((S.room : Int) - (Dk.total (S.now.take k) : Int))) (fun _ i => 16 - (intOf i).toNat)
  case atStart => exact ⟨0, Nat.zero_le _, rfl, by simp [Dk.total]⟩
  case round =>
    obtain ⟨k, hk, rfl, rfl⟩ := hrel
    have hle := total_take_le S.now k
    have ht := HT.out
    by_cases hlt : k < 16
    · have HS := Lib.hid (total_take S.now k (by rw [HN.out]; exact hlt))
      have hix := fun W => run_index_files (strs S.now) k (.string (Dk.at' S.now k)) hlt (strs_at _ _ (by rw [HN.out]; exact hlt)) W
      have hsz := Dk.at_le S.now k
      obtain ⟨T, hT⟩ : ∃ T, Dk.total (S.now.take k) = T := ⟨_, rfl⟩
      obtain ⟨sv, hz⟩ : ∃ sv, Dk.at' S.now k = sv := ⟨_, rfl⟩
      rw [hT] at hle ⊢
      rw [hz] at hsz hix
      have HTT := Lib.hid hT
      have HZ := Lib.hid hz
      clear hT hz
      have hz5 : sv.size ≤ 4194304 := by omega
      have hr0 : (0 : Int) ≤ (S.room : Int) - (T : Int) := by omega
      have hr1 : (S.room : Int) - (T : Int) ≤ 4194304 := by omega
      obtain ⟨y, hy⟩ : ∃ y, (S.room : Int) - (T : Int) = y := ⟨_, rfl⟩
      rw [hy] at hr0 hr1 ⊢
      have HY := Lib.hid hy
      clear hy hle ht hsz
      go_wp2_with fail
      go_round
      case rel => exact ⟨k + 1, by omega, by go_num, by rw [HS.out, HTT.out, HZ.out, ← HY.out]; go_num⟩
      case measure => simp [intOf]; omega
    · obtain rfl : k = 16 := by omega
      go_wp2_with fail
      go_ret
      exact ⟨ret_int (by unfold Dk.leftOf; rw [List.take_of_length_le (by rw [HN.out]; exact Nat.le_refl _)]), rfl⟩

end Go.Proofs.Ytllecjhfbojgcaa
