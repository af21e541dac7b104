/-
  The input in memory.
-/
import Derived.Test.YtllecjhfbojgcaaInOpen
import Derived.Test.YtllecjhfbojgcaaFr
namespace Go.Proofs.Ytllecjhfbojgcaa
open Go.RowKit
set_option maxRecDepth 20000

structure InR where
  part : Int
  key : Int
  val : Int
def InR.val' (x : InR) : Value := .agg #[.int .i64 x.part, .int .i64 x.key, .int .i64 x.val]
def inCells (rs : List InR) : List Value := rs.flatMap fun x => [.int .i64 x.part, .int .i64 x.key, .int .i64 x.val]
theorem inCells_snoc (rs : List InR) (x : InR) : inCells (rs ++ [x]) = inCells rs ++ [.int .i64 x.part, .int .i64 x.key, .int .i64 x.val] := by simp [inCells]
theorem inCells_len (rs : List InR) : (inCells rs).length = rs.length * 3 := by
  induction rs with
  | nil => rfl
  | cons x rs ih => rw [List.length_cons, Nat.add_mul, ← ih]; simp [inCells]
theorem inCells_at (rs : List InR) : ∀ (k : Nat) (x : InR), rs[k]? = some x → (inCells rs)[k * 3]? = some (.int .i64 x.part) ∧ (inCells rs)[k * 3 + 1]? = some (.int .i64 x.key) ∧ (inCells rs)[k * 3 + 2]? = some (.int .i64 x.val) := by
  induction rs with
  | nil => intro k x h; simp at h
  | cons y rs ih =>
    intro k x h
    cases k with
    | zero =>
      simp only [List.getElem?_cons_zero, Option.some.injEq] at h
      subst h
      exact ⟨rfl, rfl, rfl⟩
    | succ k =>
      obtain ⟨h1, h2, h3⟩ := ih k x (by simpa using h)
      rw [show (k + 1) * 3 = k * 3 + 1 + 1 + 1 by omega]
      exact ⟨h1, h2, h3⟩

structure InSt where
  D : Dk.St
  L0 : Lg.St
  L1 : Lg.St
  rs : List InR
def InSt.ent (S : InSt) (x : InR) : Lg.Rec := ⟨1, ⟨(Cl.put [(S.rs.length : Int), x.key, x.val]).toArray⟩⟩
def InSt.row (S : InSt) (x : InR) : InSt := { S with rs := S.rs ++ [x] }
def InSt.put0 (S : InSt) (r : Lg.Rec) : Int × InSt := ((Lg.put S.D 0 S.L0 r).1, { S with D := (Lg.put S.D 0 S.L0 r).2.1, L0 := (Lg.put S.D 0 S.L0 r).2.2 })
def InSt.put1 (S : InSt) (r : Lg.Rec) : Int × InSt := ((Lg.put S.D 1 S.L1 r).1, { S with D := (Lg.put S.D 1 S.L1 r).2.1, L1 := (Lg.put S.D 1 S.L1 r).2.2 })
def InSt.sync0 (S : InSt) : Int × InSt := ((Lg.sync S.D S.L0).1, { S with D := (Lg.sync S.D S.L0).2.1, L0 := (Lg.sync S.D S.L0).2.2 })
def InSt.sync1 (S : InSt) : Int × InSt := ((Lg.sync S.D S.L1).1, { S with D := (Lg.sync S.D S.L1).2.1, L1 := (Lg.sync S.D S.L1).2.2 })
def InSt.add (S : InSt) (x : InR) : Int × InSt :=
  if x.part < 0 ∨ 2 ≤ x.part then (2, S) else if 500 ≤ S.rs.length then (7, S) else
  if x.part = 0 then (if (S.put0 (S.ent x)).1 ≠ 0 then S.put0 (S.ent x) else ((S.put0 (S.ent x)).2.row x).sync0)
  else (if (S.put1 (S.ent x)).1 ≠ 0 then S.put1 (S.ent x) else ((S.put1 (S.ent x)).2.row x).sync1)

structure InAt (w0 : Fr) (w : World) (n d l0 l1 : Nat) (lv : Value) (S : InSt) (F G0 G1 N : Nat → Prop) : Prop where
  old : Since w0 w
  disk : DiskAt w d S.D F
  log0 : LogAt w l0 d 0 S.L0 G0
  log1 : LogAt w l1 d 1 S.L1 G1
  cell : w.heap[n]? = some (.cells #[ptr l0 0, ptr l1 0, lv] 96)
  row : RowAt w 32 3 lv S.rs.length (inCells S.rs)
  mem : N n
  own : ∀ g, lv.ownBlock = some g → N g
  lt : ∀ k, N k → k < w.heap.size
  f0 : ∀ k, F k → ¬ G0 k
  f1 : ∀ k, F k → ¬ G1 k
  fn : ∀ k, F k → ¬ N k
  g01 : ∀ k, G0 k → ¬ G1 k
  g0n : ∀ k, G0 k → ¬ N k
  g1n : ∀ k, G1 k → ¬ N k
  new : ∀ k, F k ∨ G0 k ∨ G1 k ∨ N k → ¬ w0.K k

def InLive (w0 : Fr) (w : World) (n d l0 l1 : Nat) (lv : Value) (S : InSt) : Prop := ∃ F G0 G1 N, InAt w0 w n d l0 l1 lv S F G0 G1 N

theorem dis_new {F F' G : Nat → Prop} {s : Nat} (hF : ∀ k, F' k → F k ∨ s ≤ k) (h : ∀ k, F k → ¬ G k) (hl : ∀ k, G k → k < s) : ∀ k, F' k → ¬ G k := fun k hk hg => by
  rcases hF k hk with h1 | h1
  · exact h k h1 hg
  · have := hl k hg; omega
theorem dis_new' {F F' G : Nat → Prop} {s : Nat} (hF : ∀ k, F' k → F k ∨ s ≤ k) (h : ∀ k, G k → ¬ F k) (hl : ∀ k, G k → k < s) : ∀ k, G k → ¬ F' k := fun k hg hk => by
  rcases hF k hk with h1 | h1
  · exact h k hg h1
  · have := hl k hg; omega

theorem InLive.below {w0 : Fr} {w w' : World} {n d l0 l1 : Nat} {lv : Value} {S : InSt} (h : InLive w0 w n d l0 l1 lv S) (hb : Below w.heap.size w w') : InLive w0 w' n d l0 l1 lv S := by
  obtain ⟨F, G0, G1, N, h⟩ := h
  exact ⟨F, G0, G1, N, h.old.below hb, h.disk.below hb, h.log0.below hb, h.log1.below hb, (hb.block n (h.lt n h.mem)).trans h.cell, h.row.kept (fun g hg => hb.block g (h.lt g (h.own g hg))), h.mem, h.own, fun k hk => Nat.lt_of_lt_of_le (h.lt k hk) hb.size, h.f0, h.f1, h.fn, h.g01, h.g0n, h.g1n, h.new⟩
theorem InLive.drew {w0 : Fr} {w : World} {n d l0 l1 : Nat} {lv : Value} {S : InSt} (h : InLive w0 w n d l0 l1 lv S) : InLive w0 w.drew n d l0 l1 lv S := h.below (bel_drew w)
theorem InLive.cells {w0 : Fr} {w : World} {n d l0 l1 : Nat} {lv : Value} {S : InSt} (h : InLive w0 w n d l0 l1 lv S) : w.heap[n]? = some (.cells #[ptr l0 0, ptr l1 0, lv] 96) ∧ RowAt w 32 3 lv S.rs.length (inCells S.rs) ∧ lv.ownBlock ≠ some n := by
  obtain ⟨F, G0, G1, N, h⟩ := h
  refine ⟨h.cell, h.row, fun e => ?_⟩
  obtain ⟨cur, hcur⟩ := h.row.type n e
  exact far hcur h.cell (by decide) rfl
theorem InLive.old {w0 : Fr} {w : World} {n d l0 l1 : Nat} {lv : Value} {S : InSt} (h : InLive w0 w n d l0 l1 lv S) : Since w0 w := by
  obtain ⟨F, G0, G1, N, h⟩ := h
  exact h.old

theorem InLive.bel {w0 w : World} {n d l0 l1 : Nat} {lv : Value} {S : InSt} (h : InLive w0 w n d l0 l1 lv S) : Below w0.heap.size w0 w := h.old.bel

theorem InAt.turn0 {w0 : Fr} {w w' : World} {n d l0 l1 : Nat} {lv : Value} {S : InSt} {F G0 G1 N : Nat → Prop} (h : InAt w0 w n d l0 l1 lv S F G0 G1 N) {D : Dk.St} {L : Lg.St} (ht : Turned2 w w' l0 d 0 D L F G0) : InLive w0 w' n d l0 l1 lv { S with D := D, L0 := L } := by
  obtain ⟨F', G', ho, h1, h2, h3, h4, h5⟩ := ht
  have k1 : ∀ k, G1 k → ¬ (F k ∨ G0 k) := fun k hk hf => hf.elim (fun e => h.f1 k e hk) (fun e => h.g01 k e hk)
  have kn : ∀ k, N k → ¬ (F k ∨ G0 k) := fun k hk hf => hf.elim (fun e => h.fn k e hk) (fun e => h.g0n k e hk)
  refine ⟨F', G', G1, N, h.old.only ho (fun i hi => h.new i (hi.elim .inl (fun e => .inr (.inl e)))), h1, h2, h.log1.only ho k1, (ho.block n (h.lt n h.mem) (kn n h.mem)).trans h.cell, h.row.kept (fun g hg => ho.block g (h.lt g (h.own g hg)) (kn g (h.own g hg))), h.mem, h.own, fun k hk => Nat.lt_of_lt_of_le (h.lt k hk) ho.size, h3, dis_new h4 h.f1 h.log1.lt, dis_new h4 h.fn h.lt, dis_new h5 h.g01 h.log1.lt, dis_new h5 h.g0n h.lt, h.g1n, fun k hk => ?_⟩
  rcases hk with hk | hk | hk
  · rcases h4 k hk with e | e
    · exact h.new k (.inl e)
    · exact h.old.fresh e
  · rcases h5 k hk with e | e
    · exact h.new k (.inr (.inl e))
    · exact h.old.fresh e
  · exact h.new k (.inr (.inr hk))
theorem InAt.turn1 {w0 : Fr} {w w' : World} {n d l0 l1 : Nat} {lv : Value} {S : InSt} {F G0 G1 N : Nat → Prop} (h : InAt w0 w n d l0 l1 lv S F G0 G1 N) {D : Dk.St} {L : Lg.St} (ht : Turned2 w w' l1 d 1 D L F G1) : InLive w0 w' n d l0 l1 lv { S with D := D, L1 := L } := by
  obtain ⟨F', G', ho, h1, h2, h3, h4, h5⟩ := ht
  have k1 : ∀ k, G0 k → ¬ (F k ∨ G1 k) := fun k hk hf => hf.elim (fun e => h.f0 k e hk) (fun e => h.g01 k hk e)
  have kn : ∀ k, N k → ¬ (F k ∨ G1 k) := fun k hk hf => hf.elim (fun e => h.fn k e hk) (fun e => h.g1n k e hk)
  refine ⟨F', G0, G', N, h.old.only ho (fun i hi => h.new i (hi.elim .inl (fun e => .inr (.inr (.inl e))))), h1, h.log0.only ho k1, h2, (ho.block n (h.lt n h.mem) (kn n h.mem)).trans h.cell, h.row.kept (fun g hg => ho.block g (h.lt g (h.own g hg)) (kn g (h.own g hg))), h.mem, h.own, fun k hk => Nat.lt_of_lt_of_le (h.lt k hk) ho.size, dis_new h4 h.f0 h.log0.lt, h3, dis_new h4 h.fn h.lt, dis_new' h5 h.g01 h.log0.lt, h.g0n, dis_new h5 h.g1n h.lt, fun k hk => ?_⟩
  rcases hk with hk | hk | hk | hk
  · rcases h4 k hk with e | e
    · exact h.new k (.inl e)
    · exact h.old.fresh e
  · exact h.new k (.inr (.inl hk))
  · rcases h5 k hk with e | e
    · exact h.new k (.inr (.inr (.inl e)))
    · exact h.old.fresh e
  · exact h.new k (.inr (.inr (.inr hk)))

theorem in_put0 {w0 : Fr} {w : World} {n d l0 l1 : Nat} {lv : Value} {S : InSt} (h : InLive w0 w n d l0 l1 lv S) (r : Lg.Rec) (hs : r.text.size ≤ 140737488351232) (hm : S.D.loose.length ≤ 1000000000) (hbig : (Lg.bytesOf S.L0.rs).length ≤ 900000000) :
    Calls Try.prog 48 #[ptr l0 0, .int .u8 (r.kind.toNat : Int), .string r.text] w fun e w' => e = .returned (.int .i64 (S.put0 r).1) ∧ InLive w0 w' n d l0 l1 lv (S.put0 r).2 := by
  obtain ⟨F, G0, G1, N, h⟩ := h
  exact (logput_any w l0 d 0 S.D S.L0 F G0 h.disk h.log0 h.f0 r hs hm hbig).mono fun _ _ ⟨h1, h2⟩ => ⟨h1, h.turn0 h2⟩
theorem in_put1 {w0 : Fr} {w : World} {n d l0 l1 : Nat} {lv : Value} {S : InSt} (h : InLive w0 w n d l0 l1 lv S) (r : Lg.Rec) (hs : r.text.size ≤ 140737488351232) (hm : S.D.loose.length ≤ 1000000000) (hbig : (Lg.bytesOf S.L1.rs).length ≤ 900000000) :
    Calls Try.prog 48 #[ptr l1 0, .int .u8 (r.kind.toNat : Int), .string r.text] w fun e w' => e = .returned (.int .i64 (S.put1 r).1) ∧ InLive w0 w' n d l0 l1 lv (S.put1 r).2 := by
  obtain ⟨F, G0, G1, N, h⟩ := h
  exact (logput_any w l1 d 1 S.D S.L1 F G1 h.disk h.log1 h.f1 r hs hm hbig).mono fun _ _ ⟨h1, h2⟩ => ⟨h1, h.turn1 h2⟩
theorem in_sync0 {w0 : Fr} {w : World} {n d l0 l1 : Nat} {lv : Value} {S : InSt} (h : InLive w0 w n d l0 l1 lv S) :
    Calls Try.prog 50 #[ptr l0 0] w fun e w' => e = .returned (.int .i64 S.sync0.1) ∧ InLive w0 w' n d l0 l1 lv S.sync0.2 := by
  obtain ⟨F, G0, G1, N, h⟩ := h
  exact (logsync_any w l0 d 0 S.D S.L0 F G0 h.disk h.log0 h.f0).mono fun _ _ ⟨h1, h2⟩ => ⟨h1, h.turn0 h2⟩
theorem in_sync1 {w0 : Fr} {w : World} {n d l0 l1 : Nat} {lv : Value} {S : InSt} (h : InLive w0 w n d l0 l1 lv S) :
    Calls Try.prog 50 #[ptr l1 0] w fun e w' => e = .returned (.int .i64 S.sync1.1) ∧ InLive w0 w' n d l0 l1 lv S.sync1.2 := by
  obtain ⟨F, G0, G1, N, h⟩ := h
  exact (logsync_any w l1 d 1 S.D S.L1 F G1 h.disk h.log1 h.f1).mono fun _ _ ⟨h1, h2⟩ => ⟨h1, h.turn1 h2⟩

/-- Behind the append of a record, and the store of the row. -/
theorem in_row {w0 : Fr} {w W w3 : World} {n d l0 l1 g cap : Nat} {lv : Value} {S : InSt} {x : InR} (h : InLive w0 w n d l0 l1 lv S)
    (hW : Below w.heap.size w W) (hgr : W.grownBy w3 lv.ownBlock) (hown : w3.ownsRow 0 32 3 (.slice (some ⟨g, 0, none⟩) (S.rs.length + 1) cap) (S.rs.length + 1) (inCells S.rs ++ [.int .i64 x.part, .int .i64 x.key, .int .i64 x.val]))
    (hat : lv.ownBlock = some g ∨ W.heap.size ≤ g) (hglt : g < w3.heap.size) :
    InLive w0 (w3.setCell ⟨n, 2, none⟩ (.slice (some ⟨g, 0, none⟩) (S.rs.length + 1) cap)) n d l0 l1 (.slice (some ⟨g, 0, none⟩) (S.rs.length + 1) cap) (S.row x) := by
  obtain ⟨-, -, hlne⟩ := h.cells
  obtain ⟨F, G0, G1, N, h⟩ := h
  have hlt := h.lt n h.mem
  have hWs := hW.size
  have hgs := hgr.size
  have hkeep : ∀ k, k < w.heap.size → some k ≠ lv.ownBlock → w3.heap[k]? = w.heap[k]? := fun k hk hne => (hgr.block k (by omega) hne).trans (hW.block k hk)
  have hc3 : w3.heap[n]? = some (.cells #[ptr l0 0, ptr l1 0, lv] 96) := (hkeep n hlt (Ne.symm hlne)).trans h.cell
  have hgl : g ≠ n := by
    rcases hat with h | h
    · intro e; rw [e] at h; exact hlne h
    · omega
  have hset : ∀ k, k ≠ n → (w3.setCell ⟨n, 2, none⟩ (.slice (some ⟨g, 0, none⟩) (S.rs.length + 1) cap)).heap[k]? = w3.heap[k]? := fun k hk => Below.heap_setCell _ _ _ _ (by exact hk)
  have ho : Only N w (w3.setCell ⟨n, 2, none⟩ (.slice (some ⟨g, 0, none⟩) (S.rs.length + 1) cap)) := by
    refine ⟨hgr.os.trans hW.os, hgr.tape.trans hW.tape, hgr.output.trans hW.output, by simp; omega, fun k hk hs => ?_⟩
    rw [hset k (fun e => hs (e ▸ h.mem)), hkeep k hk (fun e => hs (h.own k e.symm))]
  have hgo : ∀ k, (N k ∨ k = g) → N k ∨ w.heap.size ≤ k := fun k hk => by
    rcases hk with hk | hk
    · exact .inl hk
    · rcases hat with h1 | h1
      · exact .inl (hk ▸ h.own g h1)
      · right; omega
  refine ⟨F, G0, G1, fun k => N k ∨ k = g, h.old.only ho (fun i hi => h.new i (.inr (.inr (.inr hi)))), h.disk.only ho h.fn, h.log0.only ho h.g0n, h.log1.only ho h.g1n, ?_, ?_, .inl h.mem, fun b hb => ?_, fun k hk => ?_, h.f0, h.f1, dis_new' hgo h.fn h.disk.lt, h.g01, dis_new' hgo h.g0n h.log0.lt, dis_new' hgo h.g1n h.log1.lt, fun k hk => ?_⟩
  · rw [cells_set hc3]
    rfl
  · refine .inl ?_
    show World.ownsRow _ 0 _ 3 _ (S.rs ++ [x]).length (inCells (S.rs ++ [x]))
    rw [List.length_append, inCells_snoc]
    refine own_kept hown (fun b hb => ?_)
    simp only [Value.ownBlock, Option.some.injEq] at hb
    subst hb
    exact hset _ hgl
  · simp only [Value.ownBlock, Option.some.injEq] at hb
    exact .inr hb.symm
  · simp only [World.size_setCell]
    rcases hk with hk | hk
    · have := h.lt k hk; omega
    · omega
  · rcases hk with hk | hk | hk | hk
    · exact h.new k (.inl hk)
    · exact h.new k (.inr (.inl hk))
    · exact h.new k (.inr (.inr (.inl hk)))
    · rcases hgo k hk with e | e
      · exact h.new k (.inr (.inr (.inr e)))
      · exact h.old.fresh e

theorem in_len_nil (w : World) : Calls Try.prog 18 #[.pointer none] w fun e w' => e = .returned (.int .i64 0) ∧ w = w' := by
  go_enter Try.func18, Try.ntmps18
  go_wp2_with fail
  go_ret
  exact ⟨rfl, rfl⟩
theorem in_len {w0 : Fr} {w : World} {n d l0 l1 : Nat} {lv : Value} {S : InSt} (h : InLive w0 w n d l0 l1 lv S) :
    Calls Try.prog 18 #[ptr n 0] w fun e w' => e = .returned (.int .i64 (S.rs.length : Int)) ∧ w = w' := by
  obtain ⟨hc, hr, -⟩ := h.cells
  have c2 := cells_at hc 2 _ rfl
  obtain ⟨a, c, rfl⟩ := hr.reads.shape
  have hlen := hr.reads.lenLe
  unfold maxLen at hlen
  clear h hc hr
  unfold ptr
  go_enter Try.func18, Try.ntmps18
  go_wp2_with fail
  go_ret
  exact ⟨rfl, rfl⟩

/-- The input that was opened on empty files. -/
theorem in_openF (w : World) (d : Nat) (w0 : Fr) (D : Dk.St) (hL : LiveF w0 w d D) (h0 : Dk.read D 0 = (⟨#[]⟩, 0)) (h1 : Dk.read D 1 = (⟨#[]⟩, 0)) :
    Calls Try.prog 13 #[ptr d 0] w fun e w' => ∃ n l0 l1, e = .returned (.tuple #[ptr n 0, .int .i64 0]) ∧ InLive w0 w' n d l0 l1 (.slice none 0 0) ⟨D, ⟨[], 0⟩, ⟨[], 0⟩, []⟩ := by
  obtain ⟨F, hd, hn, hb⟩ := hL
  refine (inopen_fresh w d D F hd h0 h1).mono ?_
  rintro e w' ⟨n, l0, l1, he, hb', ⟨g1, g2, g3⟩, hc, hl0, hl1⟩
  have hs := hb.size
  refine ⟨n, l0, l1, he, F, (fun k => k = l0), (fun k => k = l1), (fun k => k = n), hb.below hb', hd.below hb', hl0, hl1, hc, .inl (World.ownsRow_nil _ _ _ _), rfl, fun g hg => by simp [Value.ownBlock] at hg, fun k hk => ?_, ?_, ?_, ?_, ?_, ?_, ?_, ?_⟩
  · have hk : k = n := hk
    rw [hk]
    exact (Array.getElem?_eq_some_iff.1 hc).1
  all_goals intro k hk
  · intro e; have e : k = l0 := e; have := hd.lt k hk; omega
  · intro e; have e : k = l1 := e; have := hd.lt k hk; omega
  · intro e; have e : k = n := e; have := hd.lt k hk; omega
  · intro e; have e : k = l1 := e; have hk : k = l0 := hk; omega
  · intro e; have e : k = n := e; have hk : k = l0 := hk; omega
  · intro e; have e : k = n := e; have hk : k = l1 := hk; omega
  · rcases hk with hk | hk | hk | hk
    · exact hn k hk
    · have hk : k = l0 := hk; exact hb.fresh (by omega)
    · have hk : k = l1 := hk; exact hb.fresh (by omega)
    · have hk : k = n := hk; exact hb.fresh (by omega)

theorem in_open (w : World) (d : Nat) (w0 : World) (D : Dk.St) (hL : Live w0 w d D) (h0 : Dk.read D 0 = (⟨#[]⟩, 0)) (h1 : Dk.read D 1 = (⟨#[]⟩, 0)) :
    Calls Try.prog 13 #[ptr d 0] w fun e w' => ∃ n l0 l1, e = .returned (.tuple #[ptr n 0, .int .i64 0]) ∧ InLive w0 w' n d l0 l1 (.slice none 0 0) ⟨D, ⟨[], 0⟩, ⟨[], 0⟩, []⟩ := in_openF w d w0 D hL.frame h0 h1

end Go.Proofs.Ytllecjhfbojgcaa
