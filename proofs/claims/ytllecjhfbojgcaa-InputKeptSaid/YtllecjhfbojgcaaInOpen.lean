/-
  The input's Open on files without bytes.
-/
import Derived.Test.YtllecjhfbojgcaaLogOpen
import Derived.LoopN
import Derived.Maps.OwnOps
namespace Go.Proofs.Ytllecjhfbojgcaa
open Go.RowKit
set_option maxRecDepth 20000

theorem inopen_nil (w : World) : Calls Try.prog 13 #[.pointer none] w fun e w' => e = .returned (.tuple #[.pointer none, .int .i64 1]) ∧ Below w.heap.size w w' := by
  have hmm := @run_makeMap Try.prog
  go_enter Try.func13, Try.ntmps13
  go_wp2_with fail
  refine wp_loop_rounds 1 ?_
  rw [rounds_succ]
  go_wp2_with fail
  refine (logopen_nil _ _).mono ?_
  rintro e w1 ⟨rfl, rfl⟩
  go_wp2_with fail
  go_ret2
  exact ⟨rfl, bel_trans (bel_alloc _ _) (bel_alloc _ _)⟩

theorem run_len_nomap (Y : World) (b : Nat) (h : Y.heap[b]? = some (.map #[] 0)) (ty : TypeId) : (Builtin.len_ #[97] ty #[.map (some b)]).run Try.prog Y = .ok (.int .i64 0) Y := by
  have hu : Try.prog.underlying 97 = some (.map 2 32) := Try.underlying97
  have hg : (getObj b).run Try.prog Y = .ok (.map #[] 0) Y := by simp [getObj, Sem.run, h]
  simp [Builtin.len_, run_underlying hu, Sem.run_bind, hg, go_sem]

set_option maxHeartbeats 4000000 in
theorem inopen_fresh (w : World) (d : Nat) (D : Dk.St) (F : Nat → Prop) (hd : DiskAt w d D F) (h0 : Dk.read D 0 = (⟨#[]⟩, 0)) (h1 : Dk.read D 1 = (⟨#[]⟩, 0)) :
    Calls Try.prog 13 #[ptr d 0] w fun e w' => ∃ n l0 l1, e = .returned (.tuple #[ptr n 0, .int .i64 0]) ∧ Below w.heap.size w w' ∧ (w.heap.size ≤ n ∧ n < l0 ∧ l0 < l1) ∧
      w'.heap[n]? = some (.cells #[ptr l0 0, ptr l1 0, .slice none 0 0] 96) ∧ LogAt w' l0 d 0 ⟨[], 0⟩ (fun k => k = l0) ∧ LogAt w' l1 d 1 ⟨[], 0⟩ (fun k => k = l1) := by
  have hmm := @run_makeMap Try.prog
  obtain ⟨W, hW⟩ : ∃ W, (w.alloc (.cells #[.pointer none, .pointer none, .slice none 0 0] 96)).alloc (.map #[] 0) = W := ⟨_, rfl⟩
  have hbW : Below w.heap.size w W := by rw [← hW]; exact bel_trans (bel_alloc _ _) (bel_alloc _ _)
  have hWs : W.heap.size = w.heap.size + 2 := by rw [← hW]; simp
  have hn : W.heap[w.heap.size]? = some (.cells #[.pointer none, .pointer none, .slice none 0 0] 96) := by
    rw [← hW]; exact (Below.heap_alloc _ _ _ (by simp)).trans (heap_alloc_new w _)
  have hmp : W.heap[w.heap.size + 1]? = some (.map #[] 0) := by
    rw [← hW]; have := heap_alloc_new (w.alloc (.cells #[.pointer none, .pointer none, .slice none 0 0] 96)) (.map #[] 0); simpa using this
  have HDW := Lib.hid (hd.below hbW)
  have HDF := Lib.hid hd.lt
  have HW := Lib.hid hW
  have HBW := Lib.hid hbW
  have HWS := Lib.hid hWs
  have HN := Lib.hid hn
  have HMP := Lib.hid hmp
  have HR0 := Lib.hid h0
  have HR1 := Lib.hid h1
  clear hd h0 h1 hW hbW hWs hn hmp
  unfold ptr
  go_enter Try.func13, Try.ntmps13
  go_wp2_with fail
  refine wp_loop_rounds 3 ?_
  rw [rounds_succ]
  go_wp2_with fail
  rw [HW.out]
  refine (logopen_fresh W d D F HDW.out 0 HR0.out).mono ?_
  rintro e w1 ⟨l0, rfl, hge0, hb1, hl0⟩
  have hn1 := (hb1.block _ (by have := HWS.out; omega)).trans HN.out
  have c0 := cells_at hn1 0 _ rfl
  have f0 := cells_free hn1 0
  simp only [List.getElem_toArray, List.getElem_cons_zero] at c0
  unfold ptr
  have HN1 := Lib.hid hn1
  have HB1 := Lib.hid hb1
  have HL0 := Lib.hid hl0
  have hlt1 : w.heap.size < w1.heap.size := (Array.getElem?_eq_some_iff.1 hn1).1
  clear hn1 hb1 hl0
  go_wp2_with fail
  obtain ⟨X, hX⟩ : ∃ X, w1.setCell ⟨w.heap.size, 0, none⟩ (.pointer (some ⟨l0, 0, none⟩)) = X := ⟨_, rfl⟩
  have hXn : X.heap[w.heap.size]? = some (.cells #[.pointer (some ⟨l0, 0, none⟩), .pointer none, .slice none 0 0] 96) := by rw [← hX, cells_set HN1.out]; rfl
  have hXo : ∀ k, k ≠ w.heap.size → X.heap[k]? = w1.heap[k]? := fun k hk => by rw [← hX]; exact Below.heap_setCell _ _ _ _ (by exact hk)
  have hXs : X.heap.size = w1.heap.size := by rw [← hX]; simp
  have hXL : LogAt X l0 d 0 ⟨[], 0⟩ (fun k => k = l0) := HL0.out.kept (fun k hk => hXo k (by have hk : k = l0 := hk; have := HWS.out; omega)) (by omega)
  have hXb : Below w.heap.size w X := by rw [← hX]; exact (bel_trans HBW.out HB1.out).setCell (p := ⟨w.heap.size, 0, none⟩) (Nat.le_refl _) _
  have hXm : X.heap[w.heap.size + 1]? = some (.map #[] 0) := (hXo _ (by omega)).trans ((HB1.out.block _ (by have := HWS.out; omega)).trans HMP.out)
  have hXd : DiskAt X d D F := (HDW.out.below HB1.out).kept (fun k hk => hXo k (by have h1 := hge0; intro e; have h2 := HDF.out k hk; omega)) (by omega)
  have HX := Lib.hid hX
  have HXN := Lib.hid hXn
  have HXL := Lib.hid hXL
  have HXB := Lib.hid hXb
  have HXM := Lib.hid hXm
  have HXD := Lib.hid hXd
  have HXS := Lib.hid hXs
  have hsz1 := HL0.out.lt l0 rfl
  clear hX hXn hXo hXs hXL hXb hXm hXd c0 f0
  rw [HX.out, rounds_succ]
  go_wp2_with fail
  refine (logopen_fresh X d D F HXD.out 1 HR1.out).mono ?_
  rintro e w2 ⟨l1, rfl, hge1, hb2, hl1⟩
  unfold ptr
  have hn2 := (hb2.block _ (Array.getElem?_eq_some_iff.1 HXN.out).1).trans HXN.out
  have c1 := cells_at hn2 1 _ rfl
  have f1 := cells_free hn2 1
  simp only [List.getElem_toArray, List.getElem_cons_zero, List.getElem_cons_succ] at c1
  have HN2 := Lib.hid hn2
  have HB2 := Lib.hid hb2
  have HL1 := Lib.hid hl1
  have hlt2 : w.heap.size < w2.heap.size := (Array.getElem?_eq_some_iff.1 hn2).1
  clear hn2 hb2 hl1
  go_wp2_with fail
  obtain ⟨Y, hY⟩ : ∃ Y, w2.setCell ⟨w.heap.size, 1, none⟩ (.pointer (some ⟨l1, 0, none⟩)) = Y := ⟨_, rfl⟩
  have hYn : Y.heap[w.heap.size]? = some (.cells #[.pointer (some ⟨l0, 0, none⟩), .pointer (some ⟨l1, 0, none⟩), .slice none 0 0] 96) := by rw [← hY, cells_set HN2.out]; rfl
  have hYo : ∀ k, k ≠ w.heap.size → Y.heap[k]? = w2.heap[k]? := fun k hk => by rw [← hY]; exact Below.heap_setCell _ _ _ _ (by exact hk)
  have hYs : Y.heap.size = w2.heap.size := by rw [← hY]; simp
  have hsX := HXS.out
  have hsW := HWS.out
  have hYL0 : LogAt Y l0 d 0 ⟨[], 0⟩ (fun k => k = l0) := (HXL.out.below HB2.out).kept (fun k hk => hYo k (by have hk : k = l0 := hk; omega)) (by omega)
  have hYL1 : LogAt Y l1 d 1 ⟨[], 0⟩ (fun k => k = l1) := HL1.out.kept (fun k hk => hYo k (by have hk : k = l1 := hk; omega)) (by omega)
  have hYb : Below w.heap.size w Y := by rw [← hY]; exact (bel_trans HXB.out HB2.out).setCell (p := ⟨w.heap.size, 1, none⟩) (Nat.le_refl _) _
  have hYm : Y.heap[w.heap.size + 1]? = some (.map #[] 0) := (hYo _ (by omega)).trans ((HB2.out.block _ (Array.getElem?_eq_some_iff.1 HXM.out).1).trans HXM.out)
  have d0 := cells_at hYn 0 _ rfl
  have d1 := cells_at hYn 1 _ rfl
  simp only [List.getElem_toArray, List.getElem_cons_zero, List.getElem_cons_succ] at d0 d1
  have HY := Lib.hid hY
  have HYN := Lib.hid hYn
  have HYL0 := Lib.hid hYL0
  have HYL1 := Lib.hid hYL1
  have HYB := Lib.hid hYb
  have i0 : ∀ w, (Instr.index 94 (.agg #[.pointer (some ⟨l0, 0, none⟩), .pointer (some ⟨l1, 0, none⟩)]) (.int .i64 0)).run Try.prog w = .ok (.pointer (some ⟨l0, 0, none⟩)) w := fun _ => by kernel_rfl
  have i1 : ∀ w, (Instr.index 94 (.agg #[.pointer (some ⟨l0, 0, none⟩), .pointer (some ⟨l1, 0, none⟩)]) (.int .i64 1)).run Try.prog w = .ok (.pointer (some ⟨l1, 0, none⟩)) w := fun _ => by kernel_rfl
  clear hY hYn hYo hYs hYL0 hYL1 hYb c1 f1 hsX hsW
  rw [HY.out, rounds_succ]
  go_wp2_with fail
  refine wp_loop_rounds 3 ?_
  rw [rounds_succ]
  go_wp2_with fail
  refine (loglen_any Y l0 d 0 _ _ HYL0.out).mono ?_
  rintro e w3 ⟨rfl, rfl⟩
  go_wp2_with fail
  refine wp_loop_rounds 1 ?_
  rw [rounds_succ]
  go_wp2_with fail
  rw [rounds_succ]
  go_wp2_with fail
  refine (loglen_any Y l1 d 1 _ _ HYL1.out).mono ?_
  rintro e w3 ⟨rfl, rfl⟩
  go_wp2_with fail
  refine wp_loop_rounds 1 ?_
  rw [rounds_succ]
  go_wp2_with fail
  rw [rounds_succ]
  have hml := run_len_nomap Y _ hYm
  clear hYm d0 d1 i0 i1
  go_wp2_with fail
  refine wp_loop_rounds 1 ?_
  rw [rounds_succ]
  go_wp2_with fail
  go_ret2
  have hW := HWS.out
  have h1 := HL0.out.lt l0 rfl
  have h2 := HXS.out
  exact ⟨w.heap.size, l0, l1, rfl, HYB.out, by omega, HYN.out, HYL0.out, HYL1.out⟩

end Go.Proofs.Ytllecjhfbojgcaa
