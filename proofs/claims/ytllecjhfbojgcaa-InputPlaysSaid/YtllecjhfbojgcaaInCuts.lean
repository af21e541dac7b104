/-
  Repeat of one number, twice; Cuts, At walked.
-/
import Derived.Test.YtllecjhfbojgcaaInAt
namespace Go.Proofs.Ytllecjhfbojgcaa
open Go.RowKit
set_option maxRecDepth 20000

set_option maxHeartbeats 4000000 in
theorem rep_two (w : World) (b : Nat) (hb : w.heap[b]? = some (.cells #[.int .i64 0] 3)) :
    Calls Try.prog 51 #[.slice (some ⟨b, 0, none⟩) 1 1, .int .i64 2] w fun e w' => ∃ g, e = .returned (.slice (some ⟨g, 0, none⟩) 2 2) ∧ w.heap.size ≤ g ∧ Below w.heap.size w w' ∧ w'.heap[g]? = some (.cells #[.int .i64 0, .int .i64 0] 3) := by
  have hmul : ∀ w, Calls Try.prog 87 #[.int .u64 1, .int .u64 2] w fun e w' => e = .returned (.tuple #[.int .u64 0, .int .u64 2]) ∧ w' = w := fun w => (Try.bits_Mul 1 2 (by decide) (by decide) w).mono fun e w' ⟨h1, h2⟩ => ⟨h1.trans (by simp), h2⟩
  have hmk : ∀ w, (Instr.makeSlice 35 (.int .i64 2) (.int .i64 2)).run Try.prog w = .ok (.slice (some ⟨w.heap.size, 0, none⟩) 2 2) (w.alloc (.cells #[.int .i64 0, .int .i64 0] 3)) := fun w => by kernel_rfl
  have c0 := cells_at hb 0 _ rfl
  simp only [List.getElem_toArray, List.getElem_cons_zero] at c0
  obtain ⟨W, hW⟩ : ∃ W, w.alloc (.cells #[.int .i64 0, .int .i64 0] 3) = W := ⟨_, rfl⟩
  have hbW : Below w.heap.size w W := by rw [← hW]; exact bel_alloc _ _
  have hg : W.heap[w.heap.size]? = some (.cells #[.int .i64 0, .int .i64 0] 3) := by rw [← hW]; exact heap_alloc_new w _
  have c1 := cells_at ((hbW.block b (Array.getElem?_eq_some_iff.1 hb).1).trans hb) 0 _ rfl
  have g0 := cells_at hg 0 _ rfl
  have g1 := cells_at hg 1 _ rfl
  have q0 := cells_free hg 0
  have q1 := cells_free hg 1
  simp only [List.getElem_toArray, List.getElem_cons_zero, List.getElem_cons_succ] at c1 g0 g1
  have hsz : (Try.prog.info? 3).map (·.size) = some 1 := by kernel_rfl
  have hcp1 : (Builtin.copy_ #[35, 35] 3 #[.slice (some ⟨w.heap.size, 0, none⟩) 2 2, .slice (some ⟨b, 0, none⟩) 1 1]).run Try.prog W = .ok (.int .i64 1) W := by
    have h := run_copy_row (P := Try.prog) W 35 35 3 3 w.heap.size 0 2 2 ⟨b, 0, none⟩ 1 1 #[.int .i64 0, .int .i64 0] 3 [.int .i64 0] Try.underlying35 hsz hg rfl (fun j v hj => by cases j with | zero => simp at hj; subst hj; exact c1 | succ j => simp at hj) (by simp) (by simp [Value.oneCell'])
    rw [h]
    have := setRow_self W w.heap.size #[.int .i64 0, .int .i64 0] 3 (0, 0) hg
    simpa [goInt] using this
  have hcp2 : ∀ X : World, X.heap[w.heap.size]? = some (.cells #[.int .i64 0, .int .i64 0] 3) → (Builtin.copy_ #[35, 35] 3 #[.slice (some ⟨w.heap.size, 1, none⟩) 1 1, .slice (some ⟨w.heap.size, 0, none⟩) 1 2]).run Try.prog X = .ok (.int .i64 1) X := fun X hg => by
    have h := run_copy_row (P := Try.prog) X 35 35 3 3 w.heap.size 1 1 1 ⟨w.heap.size, 0, none⟩ 1 2 #[.int .i64 0, .int .i64 0] 3 [.int .i64 0] Try.underlying35 hsz hg rfl (fun j v hj => by cases j with | zero => simp at hj; subst hj; exact cells_at hg 0 _ rfl | succ j => simp at hj) (by simp) (by simp [Value.oneCell'])
    rw [h]
    have := setRow_self X w.heap.size #[.int .i64 0, .int .i64 0] 3 (0, 0) hg
    simpa [goInt] using this
  have HCP2 := Lib.hid hcp2
  clear hcp2
  have HW := Lib.hid hW
  have HBW := Lib.hid hbW
  have HG := Lib.hid hg
  clear hW hbW hg
  have HB := Lib.hid hb
  have HMUL := Lib.hid hmul
  clear hb hmul
  go_enter Try.func51, Try.ntmps51
  go_wp2_with fail
  refine (HMUL.out _).mono ?_
  rintro e w1 ⟨rfl, rfl⟩
  go_wp2_with fail
  rw [HW.out]
  go_wp2_with fail
  rw [hcp1]
  go_wp2_with fail
  refine wp_loop_rounds 2 ?_
  rw [rounds_succ]
  go_wp2_with fail
  go_region_law (go_simp; rw [HCP2.out _ (by exact HG.out)]; go_simp)
  all_goals
    go_wp2_with fail
    rw [rounds_succ]
    go_wp2_with fail
    go_ret
    have hg := HG.out
    exact ⟨_, rfl, Nat.le_refl _, bel_trans HBW.out (bel_drew _), hg⟩

theorem cuts_nil (k : Int) (w : World) : Calls Try.prog 17 #[.pointer none, .int .i64 k] w fun e w' => e = .returned (.tuple #[.slice none 0 0, .int .i64 1]) ∧ w = w' := by
  go_enter Try.func17, Try.ntmps17
  go_wp2_with fail
  go_ret2
  exact ⟨rfl, rfl⟩
theorem cuts_range {w0 : Fr} {w : World} {n d l0 l1 : Nat} {lv : Value} {S : InSt} (h : InLive w0 w n d l0 l1 lv S) (k : Int) (hk : k < 0 ∨ (S.rs.length : Int) < k) :
    Calls Try.prog 17 #[ptr n 0, .int .i64 k] w fun e w' => e = .returned (.tuple #[.slice none 0 0, .int .i64 5]) ∧ w = w' := by
  obtain ⟨hc, hr, -⟩ := h.cells
  have c2 := cells_at hc 2 _ rfl
  obtain ⟨a, c, rfl⟩ := hr.reads.shape
  have hlen := hr.reads.lenLe
  unfold maxLen at hlen
  clear h hc hr
  unfold ptr
  rcases hk with hk | hk
  · go_enter Try.func17, Try.ntmps17
    go_wp2_with fail
    go_ret2
    exact ⟨rfl, rfl⟩
  · have hk0 : ¬ k < 0 := by omega
    go_enter Try.func17, Try.ntmps17
    go_wp2_with fail
    go_ret2
    exact ⟨rfl, rfl⟩
theorem at_nil (k : Int) (w : World) : Calls Try.prog 16 #[.pointer none, .int .i64 k] w fun e w' => e = .returned (.tuple #[.agg #[.int .i64 0, .int .i64 0, .int .i64 0], .int .i64 1]) ∧ Below w.heap.size w w' := by
  have hz := heap_alloc_new w (.cells #[.int .i64 0, .int .i64 0, .int .i64 0] 32)
  have q0 := cells_at hz 0 _ rfl
  have q1 := cells_at hz 1 _ rfl
  have q2 := cells_at hz 2 _ rfl
  go_enter Try.func16, Try.ntmps16
  go_wp2_with fail
  exact bodyPost_ret (v := .tuple #[.agg #[.int .i64 0, .int .i64 0, .int .i64 0], .int .i64 1]) (by simp [results, Try.results16, go_sem, q0, q1, q2]) rfl ⟨rfl, bel_alloc _ _⟩
theorem at_range {w0 : Fr} {w : World} {n d l0 l1 : Nat} {lv : Value} {S : InSt} (h : InLive w0 w n d l0 l1 lv S) (k : Int) (hk0 : ¬ k < 0) (hk : (S.rs.length : Int) ≤ k) :
    Calls Try.prog 16 #[ptr n 0, .int .i64 k] w fun e w' => e = .returned (.tuple #[.agg #[.int .i64 0, .int .i64 0, .int .i64 0], .int .i64 5]) ∧ Below w.heap.size w w' := by
  obtain ⟨hc, hr, -⟩ := h.cells
  obtain ⟨a, c, rfl⟩ := hr.reads.shape
  have hz := heap_alloc_new w (.cells #[.int .i64 0, .int .i64 0, .int .i64 0] 32)
  have c2 := cells_at ((Below.heap_alloc w (.cells #[.int .i64 0, .int .i64 0, .int .i64 0] 32) n (Array.getElem?_eq_some_iff.1 hc).1).trans hc) 2 _ rfl
  simp only [List.getElem_toArray, List.getElem_cons_zero, List.getElem_cons_succ] at c2
  have q0 := cells_at hz 0 _ rfl
  have q1 := cells_at hz 1 _ rfl
  have q2 := cells_at hz 2 _ rfl
  have hlen := hr.reads.lenLe
  unfold maxLen at hlen
  clear h hc hr
  unfold ptr
  go_enter Try.func16, Try.ntmps16
  go_wp2_with fail
  exact bodyPost_ret (v := .tuple #[.agg #[.int .i64 0, .int .i64 0, .int .i64 0], .int .i64 5]) (by simp [results, Try.results16, go_sem, q0, q1, q2]) rfl ⟨rfl, bel_alloc _ _⟩

theorem in_set3 {w : World} {b : Nat} {x y z : Value} {T : TypeId} (h : w.heap[b]? = some (.cells #[x, y, z] T)) (x' y' z' : Value) :
    (((w.setCell ⟨b, 0, none⟩ x').setCell ⟨b, 1, none⟩ y').setCell ⟨b, 2, none⟩ z').heap[b]? = some (.cells #[x', y', z'] T) := by
  have h1 := cells_set (cells_set (cells_set h 0 x') 1 y') 2 z'
  rw [h1]; simp

def inCnt (p : Int) (l : List InR) : Nat := (l.filter fun x => x.part == p).length
theorem inCnt_snoc (p : Int) (l : List InR) (x : InR) : inCnt p (l ++ [x]) = inCnt p l + (if x.part = p then 1 else 0) := by
  unfold inCnt
  rw [List.filter_append, List.length_append]
  by_cases h : x.part = p
  · simp [h]
  · simp [h]
theorem inCnt_le (p : Int) (l : List InR) : inCnt p l ≤ l.length := List.length_filter_le _ _

set_option maxHeartbeats 4000000 in
theorem cuts_good {w0 : Fr} {w : World} {n d l0 l1 : Nat} {lv : Value} {S : InSt} (h : InLive w0 w n d l0 l1 lv S) (k : Nat) (hk : k ≤ S.rs.length) (h0 : 0 < S.rs.length) (hn : S.rs.length ≤ 500) (hp : ∀ x ∈ S.rs, x.part = 0 ∨ x.part = 1) :
    Calls Try.prog 17 #[ptr n 0, .int .i64 (k : Int)] w fun e w' => ∃ g, e = .returned (.tuple #[.slice (some ⟨g, 0, none⟩) 2 2, .int .i64 0]) ∧ w.heap.size ≤ g ∧ Below w.heap.size w w' ∧ w'.heap[g]? = some (.cells #[.int .i64 (inCnt 0 (S.rs.take k) : Int), .int .i64 (inCnt 1 (S.rs.take k) : Int)] 3) := by
  obtain ⟨hc, hr, -⟩ := h.cells
  obtain ⟨b, o, cap, rfl, hcap, hcm, hblt, hcells⟩ := hr.reads.some h0
  have c2 := cells_at hc 2 _ rfl
  simp only [List.getElem_toArray, List.getElem_cons_zero, List.getElem_cons_succ] at c2
  have hk1 : ¬ ((S.rs.length : Int) < (k : Int)) := by omega
  have hk2 : ¬ ((k : Int) < 0) := by omega
  have HC := Lib.hid hc
  have HCELLS := Lib.hid hcells
  have HP := Lib.hid hp
  obtain ⟨m, hm⟩ : ∃ m, S.rs.length = m := ⟨_, rfl⟩
  have HM := Lib.hid hm
  rw [hm] at c2 hk h0 hn hk1 hcap
  unfold maxLen at hcm
  obtain ⟨W, hW⟩ : ∃ W, w.alloc (.cells #[.int .i64 0] 3) = W := ⟨_, rfl⟩
  have hbW : Below w.heap.size w W := by rw [← hW]; exact bel_alloc _ _
  have hg : W.heap[w.heap.size]? = some (.cells #[.int .i64 0] 3) := by rw [← hW]; exact heap_alloc_new w _
  have HW := Lib.hid hW
  have HBW := Lib.hid hbW
  have HG := Lib.hid hg
  clear h hc hr hcells hp hm hW hbW hg
  unfold ptr
  go_enter Try.func17, Try.ntmps17
  go_wp2_with fail
  rw [HW.out]
  refine (rep_two W w.heap.size HG.out).mono ?_
  rintro e w1 ⟨g, rfl, hge, hb1, hg1⟩
  have hb := bel_trans HBW.out hb1
  have hsW := HBW.out.size
  have c3 := cells_at ((hb.block n (Array.getElem?_eq_some_iff.1 HC.out).1).trans HC.out) 2 _ rfl
  simp only [List.getElem_toArray, List.getElem_cons_zero, List.getElem_cons_succ] at c3
  rw [HM.out] at c3
  have HB := Lib.hid hb
  have HG1 := Lib.hid hg1
  have hgw : w.heap.size ≤ g := by omega
  clear hb hg1 hb1 c2
  go_wp2_with fail
  go_loopw [33] (fun i wr => ∃ j : Nat, j ≤ k ∧ i = .int .i64 (j : Int) ∧ Hid (Below w.heap.size w wr) ∧ Hid (wr.heap[g]? = some (.cells #[.int .i64 (inCnt 0 (S.rs.take j) : Int), .int .i64 (inCnt 1 (S.rs.take j) : Int)] 3))) (fun i _ => k - (intOf i).toNat)
  case atStart => exact ⟨0, Nat.zero_le _, rfl, HB, HG1⟩
  case round =>
    obtain ⟨j, hj, rfl, HBR, HGR⟩ := hrel
    by_cases hlt : j < k
    · obtain ⟨x, hx⟩ : ∃ x, S.rs[j]? = some x := ⟨S.rs[j]'(by rw [HM.out]; omega), by simp⟩
      obtain ⟨i0, i1, i2⟩ := inCells_at S.rs j x hx
      have r0 := (World.cell?_of_block (HBR.out.block b hblt)).trans (HCELLS.out _ _ i0)
      have r1 := (World.cell?_of_block (HBR.out.block b hblt)).trans (HCELLS.out _ _ i1)
      have r2 := (World.cell?_of_block (HBR.out.block b hblt)).trans (HCELLS.out _ _ i2)
      rw [← Nat.add_assoc] at r1 r2
      have hxp := HP.out x (List.mem_of_getElem? hx)
      have hgl : g < wr.heap.size := (Array.getElem?_eq_some_iff.1 HGR.out).1
      have hjk : (j : Int) < (k : Int) := by omega
      have HX := Lib.hid hx
      have hc0 := inCnt_le 0 (S.rs.take j)
      have hc1 := inCnt_le 1 (S.rs.take j)
      have htl : (S.rs.take j).length ≤ 500 := by rw [List.length_take]; omega
      have HT := Lib.hid (show S.rs.take (j + 1) = S.rs.take j ++ [x] by rw [List.take_add_one, hx]; rfl)
      obtain ⟨A, hA⟩ : ∃ A, inCnt 0 (S.rs.take j) = A := ⟨_, rfl⟩
      obtain ⟨B, hB⟩ : ∃ B, inCnt 1 (S.rs.take j) = B := ⟨_, rfl⟩
      rw [hA] at hc0
      rw [hB] at hc1
      rw [hA, hB] at HGR
      have HA := Lib.hid hA
      have HBB := Lib.hid hB
      clear i0 i1 i2 hx hA hB
      obtain ⟨p, kk, vv⟩ := x
      have y0 := cells_at HGR.out 0 _ rfl
      have y1 := cells_at HGR.out 1 _ rfl
      have z0 := cells_free HGR.out 0
      have z1 := cells_free HGR.out 1
      simp only [List.getElem_toArray, List.getElem_cons_zero, List.getElem_cons_succ] at r0 r1 r2 y0 y1
      have eA : IntKind.i64.wrap ((A : Int) + 1) = (A : Int) + 1 := IntWalk.i64_in _ (by omega)
      have eB : IntKind.i64.wrap ((B : Int) + 1) = (B : Int) + 1 := IntWalk.i64_in _ (by omega)
      rcases hxp with hxp | hxp
      · have hxp : p = 0 := hxp
        subst hxp
        go_wp2_with fail
        go_roundw
        case rel =>
          have hs := HBR.out.size
          refine ⟨j + 1, by omega, by go_num, Lib.hid (bel_trans (HBR.out.setCell (p := ⟨g, 0, none⟩) hgw _) (bel_alloc _ _)), Lib.hid ?_⟩
          rw [HT.out, inCnt_snoc, inCnt_snoc, HA.out, HBB.out, Below.heap_alloc _ _ g (by simpa using hgl), cells_set HGR.out]
          simp
        case measure => simp [intOf]; omega
      · have hxp : p = 1 := hxp
        subst hxp
        go_wp2_with fail
        go_roundw
        case rel =>
          have hs := HBR.out.size
          refine ⟨j + 1, by omega, by go_num, Lib.hid (bel_trans (HBR.out.setCell (p := ⟨g, 1, none⟩) hgw _) (bel_alloc _ _)), Lib.hid ?_⟩
          rw [HT.out, inCnt_snoc, inCnt_snoc, HA.out, HBB.out, Below.heap_alloc _ _ g (by simpa using hgl), cells_set HGR.out]
          simp
        case measure => simp [intOf]; omega
    · go_wp2_with fail
      go_ret2
      have : j = k := by omega
      subst this
      exact ⟨g, rfl, hgw, HBR.out, HGR.out⟩

end Go.Proofs.Ytllecjhfbojgcaa
