/-
  At in range.
-/
import Derived.Test.YtllecjhfbojgcaaInCuts
namespace Go.Proofs.Ytllecjhfbojgcaa
open Go.RowKit
set_option maxRecDepth 20000

set_option maxHeartbeats 4000000 in
theorem at_good {w0 w : World} {n d l0 l1 : Nat} {lv : Value} {S : InSt} (h : InLive w0 w n d l0 l1 lv S) (k : Nat) (hn : S.rs.length ≤ 500) (x : InR) (hx : S.rs[k]? = some x) :
    Calls Try.prog 16 #[ptr n 0, .int .i64 (k : Int)] w fun e w' => e = .returned (.tuple #[x.val', .int .i64 0]) ∧ Below w.heap.size w w' := by
  obtain ⟨hc, hr, -⟩ := h.cells
  have hkl := (List.getElem?_eq_some_iff.1 hx).1
  obtain ⟨b, o, cap, rfl, hcap, hcm, hblt, hcells⟩ := hr.reads.some (by omega)
  have c2 := cells_at hc 2 _ rfl
  obtain ⟨i0, i1, i2⟩ := inCells_at S.rs k x hx
  have r0 := hcells _ _ i0
  have r1 := hcells _ _ i1
  have r2 := hcells _ _ i2
  rw [← Nat.add_assoc] at r1 r2
  simp only [List.getElem_toArray, List.getElem_cons_zero, List.getElem_cons_succ] at c2
  have hk1 : ¬ ((S.rs.length : Int) ≤ (k : Int)) := by omega
  have hk2 : ¬ ((k : Int) < 0) := by omega
  have hk3 : (k : Int) < (S.rs.length : Int) := by omega
  obtain ⟨m, hm⟩ : ∃ m, S.rs.length = m := ⟨_, rfl⟩
  rw [hm] at c2 hn hk1 hk3 hcap
  unfold maxLen at hcm
  have hnlt : n < w.heap.size := (Array.getElem?_eq_some_iff.1 hc).1
  obtain ⟨p, kk, v⟩ := x
  have hz := heap_alloc_new w (.cells #[.int .i64 p, .int .i64 kk, .int .i64 v] 32)
  have q0 := cells_at hz 0 _ rfl
  have q1 := cells_at hz 1 _ rfl
  have q2 := cells_at hz 2 _ rfl
  clear h hc hr hcells hm hkl hx i0 i1 i2 hz
  unfold ptr InR.val'
  show Calls _ _ _ _ fun e w' => e = .returned (.tuple #[.agg #[.int .i64 p, .int .i64 kk, .int .i64 v], .int .i64 0]) ∧ _
  go_enter Try.func16, Try.ntmps16
  go_wp2_with fail
  exact bodyPost_ret (v := .tuple #[.agg #[.int .i64 p, .int .i64 kk, .int .i64 v], .int .i64 0]) (by simp [results, Try.results16, go_sem, q0, q1, q2]) rfl ⟨rfl, bel_alloc _ _⟩

end Go.Proofs.Ytllecjhfbojgcaa
