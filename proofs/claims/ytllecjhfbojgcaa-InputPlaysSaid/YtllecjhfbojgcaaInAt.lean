/-
  The input's Open on files without bytes.
-/
import Derived.Test.YtllecjhfbojgcaaLogOpen
import Derived.LoopN
import Derived.Maps.OwnOps
import Derived.Test.YtllecjhfbojgcaaFr
namespace Go.Proofs.Ytllecjhfbojgcaa
open Go.RowKit
set_option maxRecDepth 20000

theorem inopen_nil (w : World) : Calls Try.prog 13 #[.pointer none] w fun e w' => e = .returned (.tuple #[.pointer none, .int .i64 1]) ∧ Below w.heap.size w w' := by
  have hmm := @run_makeMap Try.prog
  go_enter Try.func13, Try.ntmps13
  go_wp2_with fail
  refine wp_loop_rounds 1 ?_
  rw [rounds_succ]
  go_wp2_with fail
  refine (logopen_nil _ _).mono ?_
  rintro e w1 ⟨rfl, rfl⟩
  go_wp2_with fail
  go_ret2
  exact ⟨rfl, bel_trans (bel_alloc _ _) (bel_alloc _ _)⟩

theorem run_len_nomap (Y : World) (b : Nat) (h : Y.heap[b]? = some (.map #[] 0)) (ty : TypeId) : (Builtin.len_ #[97] ty #[.map (some b)]).run Try.prog Y = .ok (.int .i64 0) Y := by
  have hu : Try.prog.underlying 97 = some (.map 2 32) := Try.underlying97
  have hg : (getObj b).run Try.prog Y = .ok (.map #[] 0) Y := by simp [getObj, Sem.run, h]
  simp [Builtin.len_, run_underlying hu, Sem.run_bind, hg, go_sem]

set_option maxHeartbeats 4000000 in
theorem inopen_fresh (w : World) (d : Nat) (D : Dk.St) (F : Nat → Prop) (hd : DiskAt w d D F) (h0 : Dk.read D 0 = (⟨#[]⟩, 0)) (h1 : Dk.read D 1 = (⟨#[]⟩, 0)) :
    Calls Try.prog 13 #[ptr d 0] w fun e w' => ∃ n l0 l1, e = .returned (.tuple #[ptr n 0, .int .i64 0]) ∧ Below w.heap.size w w' ∧ (w.heap.size ≤ n ∧ n < l0 ∧ l0 < l1) ∧
      w'.heap[n]? = some (.cells #[ptr l0 0, ptr l1 0, .slice none 0 0] 96) ∧ LogAt w' l0 d 0 ⟨[], 0⟩ (fun k => k = l0) ∧ LogAt w' l1 d 1 ⟨[], 0⟩ (fun k => k = l1) := by
  have hmm := @run_makeMap Try.prog
  obtain ⟨W, hW⟩ : ∃ W, (w.alloc (.cells #[.pointer none, .pointer none, .slice none 0 0] 96)).alloc (.map #[] 0) = W := ⟨_, rfl⟩
  have hbW : Below w.heap.size w W := by rw [← hW]; exact bel_trans (bel_alloc _ _) (bel_alloc _ _)
  have hWs : W.heap.size = w.heap.size + 2 := by rw [← hW]; simp
  have hn : W.heap[w.heap.size]? = some (.cells #[.pointer none, .pointer none, .slice none 0 0] 96) := by
    rw [← hW]; exact (Below.heap_alloc _ _ _ (by simp)).trans (heap_alloc_new w _)
  have hmp : W.heap[w.heap.size + 1]? = some (.map #[] 0) := by
    rw [← hW]; have := heap_alloc_new (w.alloc (.cells #[.pointer none, .pointer none, .slice none 0 0] 96)) (.map #[] 0); simpa using this
  have HDW := Lib.hid (hd.below hbW)
  have HDF := Lib.hid hd.lt
  have HW := Lib.hid hW
  have HBW := Lib.hid hbW
  have HWS := Lib.hid hWs
  have HN := Lib.hid hn
  have HMP := Lib.hid hmp
  have HR0 := Lib.hid h0
  have HR1 := Lib.hid h1
  clear hd h0 h1 hW hbW hWs hn hmp
  unfold ptr
  go_enter Try.func13, Try.ntmps13
  go_wp2_with fail
  refine wp_loop_rounds 3 ?_
  rw [rounds_succ]
  go_wp2_with fail
  rw [HW.out]
  refine (logopen_fresh W d D F HDW.out 0 HR0.out).mono ?_
  rintro e w1 ⟨l0, rfl, hge0, hb1, hl0⟩
  have hn1 := (hb1.block _ (by have := HWS.out; omega)).trans HN.out
  have c0 := cells_at hn1 0 _ rfl
  have f0 := cells_free hn1 0
  simp only [List.getElem_toArray, List.getElem_cons_zero] at c0
  unfold ptr
  have HN1 := Lib.hid hn1
  have HB1 := Lib.hid hb1
  have HL0 := Lib.hid hl0
  have hlt1 : w.heap.size < w1.heap.size := (Array.getElem?_eq_some_iff.1 hn1).1
  clear hn1 hb1 hl0
  go_wp2_with fail
  obtain ⟨X, hX⟩ : ∃ X, w1.setCell ⟨w.heap.size, 0, none⟩ (.pointer (some ⟨l0, 0, none⟩)) = X := ⟨_, rfl⟩
  have hXn : X.heap[w.heap.size]? = some (.cells #[.pointer (some ⟨l0, 0, none⟩), .pointer none, .slice none 0 0] 96) := by rw [← hX, cells_set HN1.out]; rfl
  have hXo : ∀ k, k ≠ w.heap.size → X.heap[k]? = w1.heap[k]? := fun k hk => by rw [← hX]; exact Below.heap_setCell _ _ _ _ (by exact hk)
  have hXs : X.heap.size = w1.heap.size := by rw [← hX]; simp
  have hXL : LogAt X l0 d 0 ⟨[], 0⟩ (fun k => k = l0) := HL0.out.kept (fun k hk => hXo k (by have hk : k = l0 := hk; have := HWS.out; omega)) (by omega)
  have hXb : Below w.heap.size w X := by rw [← hX]; exact (bel_trans HBW.out HB1.out).setCell (p := ⟨w.heap.size, 0, none⟩) (Nat.le_refl _) _
  have hXm : X.heap[w.heap.size + 1]? = some (.map #[] 0) := (hXo _ (by omega)).trans ((HB1.out.block _ (by have := HWS.out; omega)).trans HMP.out)
  have hXd : DiskAt X d D F := (HDW.out.below HB1.out).kept (fun k hk => hXo k (by have h1 := hge0; intro e; have h2 := HDF.out k hk; omega)) (by omega)
  have HX := Lib.hid hX
  have HXN := Lib.hid hXn
  have HXL := Lib.hid hXL
  have HXB := Lib.hid hXb
  have HXM := Lib.hid hXm
  have HXD := Lib.hid hXd
  have HXS := Lib.hid hXs
  have hsz1 := HL0.out.lt l0 rfl
  clear hX hXn hXo hXs hXL hXb hXm hXd c0 f0
  rw [HX.out, rounds_succ]
  go_wp2_with fail
  refine (logopen_fresh X d D F HXD.out 1 HR1.out).mono ?_
  rintro e w2 ⟨l1, rfl, hge1, hb2, hl1⟩
  unfold ptr
  have hn2 := (hb2.block _ (Array.getElem?_eq_some_iff.1 HXN.out).1).trans HXN.out
  have c1 := cells_at hn2 1 _ rfl
  have f1 := cells_free hn2 1
  simp only [List.getElem_toArray, List.getElem_cons_zero, List.getElem_cons_succ] at c1
  have HN2 := Lib.hid hn2
  have HB2 := Lib.hid hb2
  have HL1 := Lib.hid hl1
  have hlt2 : w.heap.size < w2.heap.size := (Array.getElem?_eq_some_iff.1 hn2).1
  clear hn2 hb2 hl1
  go_wp2_with fail
  obtain ⟨Y, hY⟩ : ∃ Y, w2.setCell ⟨w.heap.size, 1, none⟩ (.pointer (some ⟨l1, 0, none⟩)) = Y := ⟨_, rfl⟩
  have hYn : Y.heap[w.heap.size]? = some (.cells #[.pointer (some ⟨l0, 0, none⟩), .pointer (some ⟨l1, 0, none⟩), .slice none 0 0] 96) := by rw [← hY, cells_set HN2.out]; rfl
  have hYo : ∀ k, k ≠ w.heap.size → Y.heap[k]? = w2.heap[k]? := fun k hk => by rw [← hY]; exact Below.heap_setCell _ _ _ _ (by exact hk)
  have hYs : Y.heap.size = w2.heap.size := by rw [← hY]; simp
  have hsX := HXS.out
  have hsW := HWS.out
  have hYL0 : LogAt Y l0 d 0 ⟨[], 0⟩ (fun k => k = l0) := (HXL.out.below HB2.out).kept (fun k hk => hYo k (by have hk : k = l0 := hk; omega)) (by omega)
  have hYL1 : LogAt Y l1 d 1 ⟨[], 0⟩ (fun k => k = l1) := HL1.out.kept (fun k hk => hYo k (by have hk : k = l1 := hk; omega)) (by omega)
  have hYb : Below w.heap.size w Y := by rw [← hY]; exact (bel_trans HXB.out HB2.out).setCell (p := ⟨w.heap.size, 1, none⟩) (Nat.le_refl _) _
  have hYm : Y.heap[w.heap.size + 1]? = some (.map #[] 0) := (hYo _ (by omega)).trans ((HB2.out.block _ (Array.getElem?_eq_some_iff.1 HXM.out).1).trans HXM.out)
  have d0 := cells_at hYn 0 _ rfl
  have d1 := cells_at hYn 1 _ rfl
  simp only [List.getElem_toArray, List.getElem_cons_zero, List.getElem_cons_succ] at d0 d1
  have HY := Lib.hid hY
  have HYN := Lib.hid hYn
  have HYL0 := Lib.hid hYL0
  have HYL1 := Lib.hid hYL1
  have HYB := Lib.hid hYb
  have i0 : ∀ w, (Instr.index 94 (.agg #[.pointer (some ⟨l0, 0, none⟩), .pointer (some ⟨l1, 0, none⟩)]) (.int .i64 0)).run Try.prog w = .ok (.pointer (some ⟨l0, 0, none⟩)) w := fun _ => by kernel_rfl
  have i1 : ∀ w, (Instr.index 94 (.agg #[.pointer (some ⟨l0, 0, none⟩), .pointer (some ⟨l1, 0, none⟩)]) (.int .i64 1)).run Try.prog w = .ok (.pointer (some ⟨l1, 0, none⟩)) w := fun _ => by kernel_rfl
  clear hY hYn hYo hYs hYL0 hYL1 hYb c1 f1 hsX hsW
  rw [HY.out, rounds_succ]
  go_wp2_with fail
  refine wp_loop_rounds 3 ?_
  rw [rounds_succ]
  go_wp2_with fail
  refine (loglen_any Y l0 d 0 _ _ HYL0.out).mono ?_
  rintro e w3 ⟨rfl, rfl⟩
  go_wp2_with fail
  refine wp_loop_rounds 1 ?_
  rw [rounds_succ]
  go_wp2_with fail
  rw [rounds_succ]
  go_wp2_with fail
  refine (loglen_any Y l1 d 1 _ _ HYL1.out).mono ?_
  rintro e w3 ⟨rfl, rfl⟩
  go_wp2_with fail
  refine wp_loop_rounds 1 ?_
  rw [rounds_succ]
  go_wp2_with fail
  rw [rounds_succ]
  have hml := run_len_nomap Y _ hYm
  clear hYm d0 d1 i0 i1
  go_wp2_with fail
  refine wp_loop_rounds 1 ?_
  rw [rounds_succ]
  go_wp2_with fail
  go_ret2
  have hW := HWS.out
  have h1 := HL0.out.lt l0 rfl
  have h2 := HXS.out
  exact ⟨w.heap.size, l0, l1, rfl, HYB.out, by omega, HYN.out, HYL0.out, HYL1.out⟩

end Go.Proofs.Ytllecjhfbojgcaa

/-
  The input in memory.
-/
namespace Go.Proofs.Ytllecjhfbojgcaa
open Go.RowKit
set_option maxRecDepth 20000

structure InR where
  part : Int
  key : Int
  val : Int
def InR.val' (x : InR) : Value := .agg #[.int .i64 x.part, .int .i64 x.key, .int .i64 x.val]
def inCells (rs : List InR) : List Value := rs.flatMap fun x => [.int .i64 x.part, .int .i64 x.key, .int .i64 x.val]
theorem inCells_snoc (rs : List InR) (x : InR) : inCells (rs ++ [x]) = inCells rs ++ [.int .i64 x.part, .int .i64 x.key, .int .i64 x.val] := by simp [inCells]
theorem inCells_len (rs : List InR) : (inCells rs).length = rs.length * 3 := by
  induction rs with
  | nil => rfl
  | cons x rs ih => rw [List.length_cons, Nat.add_mul, ← ih]; simp [inCells]
theorem inCells_at (rs : List InR) : ∀ (k : Nat) (x : InR), rs[k]? = some x → (inCells rs)[k * 3]? = some (.int .i64 x.part) ∧ (inCells rs)[k * 3 + 1]? = some (.int .i64 x.key) ∧ (inCells rs)[k * 3 + 2]? = some (.int .i64 x.val) := by
  induction rs with
  | nil => intro k x h; simp at h
  | cons y rs ih =>
    intro k x h
    cases k with
    | zero =>
      simp only [List.getElem?_cons_zero, Option.some.injEq] at h
      subst h
      exact ⟨rfl, rfl, rfl⟩
    | succ k =>
      obtain ⟨h1, h2, h3⟩ := ih k x (by simpa using h)
      rw [show (k + 1) * 3 = k * 3 + 1 + 1 + 1 by omega]
      exact ⟨h1, h2, h3⟩

structure InSt where
  D : Dk.St
  L0 : Lg.St
  L1 : Lg.St
  rs : List InR
def InSt.ent (S : InSt) (x : InR) : Lg.Rec := ⟨1, ⟨(Cl.put [(S.rs.length : Int), x.key, x.val]).toArray⟩⟩
def InSt.row (S : InSt) (x : InR) : InSt := { S with rs := S.rs ++ [x] }
def InSt.put0 (S : InSt) (r : Lg.Rec) : Int × InSt := ((Lg.put S.D 0 S.L0 r).1, { S with D := (Lg.put S.D 0 S.L0 r).2.1, L0 := (Lg.put S.D 0 S.L0 r).2.2 })
def InSt.put1 (S : InSt) (r : Lg.Rec) : Int × InSt := ((Lg.put S.D 1 S.L1 r).1, { S with D := (Lg.put S.D 1 S.L1 r).2.1, L1 := (Lg.put S.D 1 S.L1 r).2.2 })
def InSt.sync0 (S : InSt) : Int × InSt := ((Lg.sync S.D S.L0).1, { S with D := (Lg.sync S.D S.L0).2.1, L0 := (Lg.sync S.D S.L0).2.2 })
def InSt.sync1 (S : InSt) : Int × InSt := ((Lg.sync S.D S.L1).1, { S with D := (Lg.sync S.D S.L1).2.1, L1 := (Lg.sync S.D S.L1).2.2 })
def InSt.add (S : InSt) (x : InR) : Int × InSt :=
  if x.part < 0 ∨ 2 ≤ x.part then (2, S) else if 500 ≤ S.rs.length then (7, S) else
  if x.part = 0 then (if (S.put0 (S.ent x)).1 ≠ 0 then S.put0 (S.ent x) else ((S.put0 (S.ent x)).2.row x).sync0)
  else (if (S.put1 (S.ent x)).1 ≠ 0 then S.put1 (S.ent x) else ((S.put1 (S.ent x)).2.row x).sync1)

structure InAt (w0 : Fr) (w : World) (n d l0 l1 : Nat) (lv : Value) (S : InSt) (F G0 G1 N : Nat → Prop) : Prop where
  old : Since w0 w
  disk : DiskAt w d S.D F
  log0 : LogAt w l0 d 0 S.L0 G0
  log1 : LogAt w l1 d 1 S.L1 G1
  cell : w.heap[n]? = some (.cells #[ptr l0 0, ptr l1 0, lv] 96)
  row : RowAt w 32 3 lv S.rs.length (inCells S.rs)
  mem : N n
  own : ∀ g, lv.ownBlock = some g → N g
  lt : ∀ k, N k → k < w.heap.size
  f0 : ∀ k, F k → ¬ G0 k
  f1 : ∀ k, F k → ¬ G1 k
  fn : ∀ k, F k → ¬ N k
  g01 : ∀ k, G0 k → ¬ G1 k
  g0n : ∀ k, G0 k → ¬ N k
  g1n : ∀ k, G1 k → ¬ N k
  new : ∀ k, F k ∨ G0 k ∨ G1 k ∨ N k → ¬ w0.K k

def InLive (w0 : Fr) (w : World) (n d l0 l1 : Nat) (lv : Value) (S : InSt) : Prop := ∃ F G0 G1 N, InAt w0 w n d l0 l1 lv S F G0 G1 N

theorem dis_new {F F' G : Nat → Prop} {s : Nat} (hF : ∀ k, F' k → F k ∨ s ≤ k) (h : ∀ k, F k → ¬ G k) (hl : ∀ k, G k → k < s) : ∀ k, F' k → ¬ G k := fun k hk hg => by
  rcases hF k hk with h1 | h1
  · exact h k h1 hg
  · have := hl k hg; omega
theorem dis_new' {F F' G : Nat → Prop} {s : Nat} (hF : ∀ k, F' k → F k ∨ s ≤ k) (h : ∀ k, G k → ¬ F k) (hl : ∀ k, G k → k < s) : ∀ k, G k → ¬ F' k := fun k hg hk => by
  rcases hF k hk with h1 | h1
  · exact h k hg h1
  · have := hl k hg; omega

theorem InLive.below {w0 : Fr} {w w' : World} {n d l0 l1 : Nat} {lv : Value} {S : InSt} (h : InLive w0 w n d l0 l1 lv S) (hb : Below w.heap.size w w') : InLive w0 w' n d l0 l1 lv S := by
  obtain ⟨F, G0, G1, N, h⟩ := h
  exact ⟨F, G0, G1, N, h.old.below hb, h.disk.below hb, h.log0.below hb, h.log1.below hb, (hb.block n (h.lt n h.mem)).trans h.cell, h.row.kept (fun g hg => hb.block g (h.lt g (h.own g hg))), h.mem, h.own, fun k hk => Nat.lt_of_lt_of_le (h.lt k hk) hb.size, h.f0, h.f1, h.fn, h.g01, h.g0n, h.g1n, h.new⟩
theorem InLive.drew {w0 : Fr} {w : World} {n d l0 l1 : Nat} {lv : Value} {S : InSt} (h : InLive w0 w n d l0 l1 lv S) : InLive w0 w.drew n d l0 l1 lv S := h.below (bel_drew w)
theorem InLive.cells {w0 : Fr} {w : World} {n d l0 l1 : Nat} {lv : Value} {S : InSt} (h : InLive w0 w n d l0 l1 lv S) : w.heap[n]? = some (.cells #[ptr l0 0, ptr l1 0, lv] 96) ∧ RowAt w 32 3 lv S.rs.length (inCells S.rs) ∧ lv.ownBlock ≠ some n := by
  obtain ⟨F, G0, G1, N, h⟩ := h
  refine ⟨h.cell, h.row, fun e => ?_⟩
  obtain ⟨cur, hcur⟩ := h.row.type n e
  exact far hcur h.cell (by decide) rfl
theorem InLive.old {w0 : Fr} {w : World} {n d l0 l1 : Nat} {lv : Value} {S : InSt} (h : InLive w0 w n d l0 l1 lv S) : Since w0 w := by
  obtain ⟨F, G0, G1, N, h⟩ := h
  exact h.old

theorem InLive.bel {w0 w : World} {n d l0 l1 : Nat} {lv : Value} {S : InSt} (h : InLive w0 w n d l0 l1 lv S) : Below w0.heap.size w0 w := h.old.bel

theorem InAt.turn0 {w0 : Fr} {w w' : World} {n d l0 l1 : Nat} {lv : Value} {S : InSt} {F G0 G1 N : Nat → Prop} (h : InAt w0 w n d l0 l1 lv S F G0 G1 N) {D : Dk.St} {L : Lg.St} (ht : Turned2 w w' l0 d 0 D L F G0) : InLive w0 w' n d l0 l1 lv { S with D := D, L0 := L } := by
  obtain ⟨F', G', ho, h1, h2, h3, h4, h5⟩ := ht
  have k1 : ∀ k, G1 k → ¬ (F k ∨ G0 k) := fun k hk hf => hf.elim (fun e => h.f1 k e hk) (fun e => h.g01 k e hk)
  have kn : ∀ k, N k → ¬ (F k ∨ G0 k) := fun k hk hf => hf.elim (fun e => h.fn k e hk) (fun e => h.g0n k e hk)
  refine ⟨F', G', G1, N, h.old.only ho (fun i hi => h.new i (hi.elim .inl (fun e => .inr (.inl e)))), h1, h2, h.log1.only ho k1, (ho.block n (h.lt n h.mem) (kn n h.mem)).trans h.cell, h.row.kept (fun g hg => ho.block g (h.lt g (h.own g hg)) (kn g (h.own g hg))), h.mem, h.own, fun k hk => Nat.lt_of_lt_of_le (h.lt k hk) ho.size, h3, dis_new h4 h.f1 h.log1.lt, dis_new h4 h.fn h.lt, dis_new h5 h.g01 h.log1.lt, dis_new h5 h.g0n h.lt, h.g1n, fun k hk => ?_⟩
  rcases hk with hk | hk | hk
  · rcases h4 k hk with e | e
    · exact h.new k (.inl e)
    · exact h.old.fresh e
  · rcases h5 k hk with e | e
    · exact h.new k (.inr (.inl e))
    · exact h.old.fresh e
  · exact h.new k (.inr (.inr hk))
theorem InAt.turn1 {w0 : Fr} {w w' : World} {n d l0 l1 : Nat} {lv : Value} {S : InSt} {F G0 G1 N : Nat → Prop} (h : InAt w0 w n d l0 l1 lv S F G0 G1 N) {D : Dk.St} {L : Lg.St} (ht : Turned2 w w' l1 d 1 D L F G1) : InLive w0 w' n d l0 l1 lv { S with D := D, L1 := L } := by
  obtain ⟨F', G', ho, h1, h2, h3, h4, h5⟩ := ht
  have k1 : ∀ k, G0 k → ¬ (F k ∨ G1 k) := fun k hk hf => hf.elim (fun e => h.f0 k e hk) (fun e => h.g01 k hk e)
  have kn : ∀ k, N k → ¬ (F k ∨ G1 k) := fun k hk hf => hf.elim (fun e => h.fn k e hk) (fun e => h.g1n k e hk)
  refine ⟨F', G0, G', N, h.old.only ho (fun i hi => h.new i (hi.elim .inl (fun e => .inr (.inr (.inl e))))), h1, h.log0.only ho k1, h2, (ho.block n (h.lt n h.mem) (kn n h.mem)).trans h.cell, h.row.kept (fun g hg => ho.block g (h.lt g (h.own g hg)) (kn g (h.own g hg))), h.mem, h.own, fun k hk => Nat.lt_of_lt_of_le (h.lt k hk) ho.size, dis_new h4 h.f0 h.log0.lt, h3, dis_new h4 h.fn h.lt, dis_new' h5 h.g01 h.log0.lt, h.g0n, dis_new h5 h.g1n h.lt, fun k hk => ?_⟩
  rcases hk with hk | hk | hk | hk
  · rcases h4 k hk with e | e
    · exact h.new k (.inl e)
    · exact h.old.fresh e
  · exact h.new k (.inr (.inl hk))
  · rcases h5 k hk with e | e
    · exact h.new k (.inr (.inr (.inl e)))
    · exact h.old.fresh e
  · exact h.new k (.inr (.inr (.inr hk)))

theorem in_put0 {w0 : Fr} {w : World} {n d l0 l1 : Nat} {lv : Value} {S : InSt} (h : InLive w0 w n d l0 l1 lv S) (r : Lg.Rec) (hs : r.text.size ≤ 140737488351232) (hm : S.D.loose.length ≤ 1000000000) (hbig : (Lg.bytesOf S.L0.rs).length ≤ 900000000) :
    Calls Try.prog 48 #[ptr l0 0, .int .u8 (r.kind.toNat : Int), .string r.text] w fun e w' => e = .returned (.int .i64 (S.put0 r).1) ∧ InLive w0 w' n d l0 l1 lv (S.put0 r).2 := by
  obtain ⟨F, G0, G1, N, h⟩ := h
  exact (logput_any w l0 d 0 S.D S.L0 F G0 h.disk h.log0 h.f0 r hs hm hbig).mono fun _ _ ⟨h1, h2⟩ => ⟨h1, h.turn0 h2⟩
theorem in_put1 {w0 : Fr} {w : World} {n d l0 l1 : Nat} {lv : Value} {S : InSt} (h : InLive w0 w n d l0 l1 lv S) (r : Lg.Rec) (hs : r.text.size ≤ 140737488351232) (hm : S.D.loose.length ≤ 1000000000) (hbig : (Lg.bytesOf S.L1.rs).length ≤ 900000000) :
    Calls Try.prog 48 #[ptr l1 0, .int .u8 (r.kind.toNat : Int), .string r.text] w fun e w' => e = .returned (.int .i64 (S.put1 r).1) ∧ InLive w0 w' n d l0 l1 lv (S.put1 r).2 := by
  obtain ⟨F, G0, G1, N, h⟩ := h
  exact (logput_any w l1 d 1 S.D S.L1 F G1 h.disk h.log1 h.f1 r hs hm hbig).mono fun _ _ ⟨h1, h2⟩ => ⟨h1, h.turn1 h2⟩
theorem in_sync0 {w0 : Fr} {w : World} {n d l0 l1 : Nat} {lv : Value} {S : InSt} (h : InLive w0 w n d l0 l1 lv S) :
    Calls Try.prog 50 #[ptr l0 0] w fun e w' => e = .returned (.int .i64 S.sync0.1) ∧ InLive w0 w' n d l0 l1 lv S.sync0.2 := by
  obtain ⟨F, G0, G1, N, h⟩ := h
  exact (logsync_any w l0 d 0 S.D S.L0 F G0 h.disk h.log0 h.f0).mono fun _ _ ⟨h1, h2⟩ => ⟨h1, h.turn0 h2⟩
theorem in_sync1 {w0 : Fr} {w : World} {n d l0 l1 : Nat} {lv : Value} {S : InSt} (h : InLive w0 w n d l0 l1 lv S) :
    Calls Try.prog 50 #[ptr l1 0] w fun e w' => e = .returned (.int .i64 S.sync1.1) ∧ InLive w0 w' n d l0 l1 lv S.sync1.2 := by
  obtain ⟨F, G0, G1, N, h⟩ := h
  exact (logsync_any w l1 d 1 S.D S.L1 F G1 h.disk h.log1 h.f1).mono fun _ _ ⟨h1, h2⟩ => ⟨h1, h.turn1 h2⟩

/-- Behind the append of a record, and the store of the row. -/
theorem in_row {w0 : Fr} {w W w3 : World} {n d l0 l1 g cap : Nat} {lv : Value} {S : InSt} {x : InR} (h : InLive w0 w n d l0 l1 lv S)
    (hW : Below w.heap.size w W) (hgr : W.grownBy w3 lv.ownBlock) (hown : w3.ownsRow 0 32 3 (.slice (some ⟨g, 0, none⟩) (S.rs.length + 1) cap) (S.rs.length + 1) (inCells S.rs ++ [.int .i64 x.part, .int .i64 x.key, .int .i64 x.val]))
    (hat : lv.ownBlock = some g ∨ W.heap.size ≤ g) (hglt : g < w3.heap.size) :
    InLive w0 (w3.setCell ⟨n, 2, none⟩ (.slice (some ⟨g, 0, none⟩) (S.rs.length + 1) cap)) n d l0 l1 (.slice (some ⟨g, 0, none⟩) (S.rs.length + 1) cap) (S.row x) := by
  obtain ⟨-, -, hlne⟩ := h.cells
  obtain ⟨F, G0, G1, N, h⟩ := h
  have hlt := h.lt n h.mem
  have hWs := hW.size
  have hgs := hgr.size
  have hkeep : ∀ k, k < w.heap.size → some k ≠ lv.ownBlock → w3.heap[k]? = w.heap[k]? := fun k hk hne => (hgr.block k (by omega) hne).trans (hW.block k hk)
  have hc3 : w3.heap[n]? = some (.cells #[ptr l0 0, ptr l1 0, lv] 96) := (hkeep n hlt (Ne.symm hlne)).trans h.cell
  have hgl : g ≠ n := by
    rcases hat with h | h
    · intro e; rw [e] at h; exact hlne h
    · omega
  have hset : ∀ k, k ≠ n → (w3.setCell ⟨n, 2, none⟩ (.slice (some ⟨g, 0, none⟩) (S.rs.length + 1) cap)).heap[k]? = w3.heap[k]? := fun k hk => Below.heap_setCell _ _ _ _ (by exact hk)
  have ho : Only N w (w3.setCell ⟨n, 2, none⟩ (.slice (some ⟨g, 0, none⟩) (S.rs.length + 1) cap)) := by
    refine ⟨hgr.os.trans hW.os, hgr.tape.trans hW.tape, hgr.output.trans hW.output, by simp; omega, fun k hk hs => ?_⟩
    rw [hset k (fun e => hs (e ▸ h.mem)), hkeep k hk (fun e => hs (h.own k e.symm))]
  have hgo : ∀ k, (N k ∨ k = g) → N k ∨ w.heap.size ≤ k := fun k hk => by
    rcases hk with hk | hk
    · exact .inl hk
    · rcases hat with h1 | h1
      · exact .inl (hk ▸ h.own g h1)
      · right; omega
  refine ⟨F, G0, G1, fun k => N k ∨ k = g, h.old.only ho (fun i hi => h.new i (.inr (.inr (.inr hi)))), h.disk.only ho h.fn, h.log0.only ho h.g0n, h.log1.only ho h.g1n, ?_, ?_, .inl h.mem, fun b hb => ?_, fun k hk => ?_, h.f0, h.f1, dis_new' hgo h.fn h.disk.lt, h.g01, dis_new' hgo h.g0n h.log0.lt, dis_new' hgo h.g1n h.log1.lt, fun k hk => ?_⟩
  · rw [cells_set hc3]
    rfl
  · refine .inl ?_
    show World.ownsRow _ 0 _ 3 _ (S.rs ++ [x]).length (inCells (S.rs ++ [x]))
    rw [List.length_append, inCells_snoc]
    refine own_kept hown (fun b hb => ?_)
    simp only [Value.ownBlock, Option.some.injEq] at hb
    subst hb
    exact hset _ hgl
  · simp only [Value.ownBlock, Option.some.injEq] at hb
    exact .inr hb.symm
  · simp only [World.size_setCell]
    rcases hk with hk | hk
    · have := h.lt k hk; omega
    · omega
  · rcases hk with hk | hk | hk | hk
    · exact h.new k (.inl hk)
    · exact h.new k (.inr (.inl hk))
    · exact h.new k (.inr (.inr (.inl hk)))
    · rcases hgo k hk with e | e
      · exact h.new k (.inr (.inr (.inr e)))
      · exact h.old.fresh e

theorem in_len_nil (w : World) : Calls Try.prog 18 #[.pointer none] w fun e w' => e = .returned (.int .i64 0) ∧ w = w' := by
  go_enter Try.func18, Try.ntmps18
  go_wp2_with fail
  go_ret
  exact ⟨rfl, rfl⟩
theorem in_len {w0 : Fr} {w : World} {n d l0 l1 : Nat} {lv : Value} {S : InSt} (h : InLive w0 w n d l0 l1 lv S) :
    Calls Try.prog 18 #[ptr n 0] w fun e w' => e = .returned (.int .i64 (S.rs.length : Int)) ∧ w = w' := by
  obtain ⟨hc, hr, -⟩ := h.cells
  have c2 := cells_at hc 2 _ rfl
  obtain ⟨a, c, rfl⟩ := hr.reads.shape
  have hlen := hr.reads.lenLe
  unfold maxLen at hlen
  clear h hc hr
  unfold ptr
  go_enter Try.func18, Try.ntmps18
  go_wp2_with fail
  go_ret
  exact ⟨rfl, rfl⟩

/-- The input that was opened on empty files. -/
theorem in_openF (w : World) (d : Nat) (w0 : Fr) (D : Dk.St) (hL : LiveF w0 w d D) (h0 : Dk.read D 0 = (⟨#[]⟩, 0)) (h1 : Dk.read D 1 = (⟨#[]⟩, 0)) :
    Calls Try.prog 13 #[ptr d 0] w fun e w' => ∃ n l0 l1, e = .returned (.tuple #[ptr n 0, .int .i64 0]) ∧ InLive w0 w' n d l0 l1 (.slice none 0 0) ⟨D, ⟨[], 0⟩, ⟨[], 0⟩, []⟩ := by
  obtain ⟨F, hd, hn, hb⟩ := hL
  refine (inopen_fresh w d D F hd h0 h1).mono ?_
  rintro e w' ⟨n, l0, l1, he, hb', ⟨g1, g2, g3⟩, hc, hl0, hl1⟩
  have hs := hb.size
  refine ⟨n, l0, l1, he, F, (fun k => k = l0), (fun k => k = l1), (fun k => k = n), hb.below hb', hd.below hb', hl0, hl1, hc, .inl (World.ownsRow_nil _ _ _ _), rfl, fun g hg => by simp [Value.ownBlock] at hg, fun k hk => ?_, ?_, ?_, ?_, ?_, ?_, ?_, ?_⟩
  · have hk : k = n := hk
    rw [hk]
    exact (Array.getElem?_eq_some_iff.1 hc).1
  all_goals intro k hk
  · intro e; have e : k = l0 := e; have := hd.lt k hk; omega
  · intro e; have e : k = l1 := e; have := hd.lt k hk; omega
  · intro e; have e : k = n := e; have := hd.lt k hk; omega
  · intro e; have e : k = l1 := e; have hk : k = l0 := hk; omega
  · intro e; have e : k = n := e; have hk : k = l0 := hk; omega
  · intro e; have e : k = n := e; have hk : k = l1 := hk; omega
  · rcases hk with hk | hk | hk | hk
    · exact hn k hk
    · have hk : k = l0 := hk; exact hb.fresh (by omega)
    · have hk : k = l1 := hk; exact hb.fresh (by omega)
    · have hk : k = n := hk; exact hb.fresh (by omega)

theorem in_open (w : World) (d : Nat) (w0 : World) (D : Dk.St) (hL : Live w0 w d D) (h0 : Dk.read D 0 = (⟨#[]⟩, 0)) (h1 : Dk.read D 1 = (⟨#[]⟩, 0)) :
    Calls Try.prog 13 #[ptr d 0] w fun e w' => ∃ n l0 l1, e = .returned (.tuple #[ptr n 0, .int .i64 0]) ∧ InLive w0 w' n d l0 l1 (.slice none 0 0) ⟨D, ⟨[], 0⟩, ⟨[], 0⟩, []⟩ := in_openF w d w0 D hL.frame h0 h1

end Go.Proofs.Ytllecjhfbojgcaa
