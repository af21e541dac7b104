/-
  A disk and the reference's disk, side by side: each call; Does.
-/
import Derived.Test.YtllecjhfbojgcaaRefCalls
import Derived.Test.YtllecjhfbojgcaaArgsDop
import Derived.Deep.CutRange
namespace Go.Proofs.Ytllecjhfbojgcaa
open Go.RowKit
set_option maxRecDepth 20000

def BothD (w0 w : World) (d r : Nat) (S S' : Dk.St) (K : Nat → Prop) : Prop :=
  ∃ F G, DiskAt w d S F ∧ RDAt w r S' G ∧ (∀ k, F k → ¬ G k) ∧ (∀ k, F k → w0.heap.size ≤ k) ∧ (∀ k, G k → w0.heap.size ≤ k) ∧ Below w0.heap.size w0 w ∧ ∀ k, K k → k < w.heap.size ∧ ¬ F k ∧ ¬ G k

theorem BothD.bel {w0 w : World} {d r : Nat} {S S' : Dk.St} {K : Nat → Prop} (h : BothD w0 w d r S S' K) : Below w0.heap.size w0 w := by
  obtain ⟨F, G, h1, h2, h3, h4, h5, h6, h7⟩ := h
  exact h6
theorem BothD.less {w0 w : World} {d r : Nat} {S S' : Dk.St} {K K' : Nat → Prop} (h : BothD w0 w d r S S' K) (hk : ∀ k, K' k → K k) : BothD w0 w d r S S' K' := by
  obtain ⟨F, G, h1, h2, h3, h4, h5, h6, h7⟩ := h
  exact ⟨F, G, h1, h2, h3, h4, h5, h6, fun k h => h7 k (hk k h)⟩
theorem BothD.grow {w0 w w' : World} {d r : Nat} {S S' : Dk.St} {K : Nat → Prop} (h : BothD w0 w d r S S' K) (hb : Below w.heap.size w w') : BothD w0 w' d r S S' (fun k => K k ∨ (w.heap.size ≤ k ∧ k < w'.heap.size)) := by
  obtain ⟨F, G, h1, h2, h3, h4, h5, h6, h7⟩ := h
  have hs := hb.size
  refine ⟨F, G, h1.below hb, h2.below hb, h3, h4, h5, h6.trans (hb.mono h6.size), fun k hk => ?_⟩
  rcases hk with hk | ⟨hk, hk'⟩
  · obtain ⟨h8, h9⟩ := h7 k hk
    exact ⟨by omega, h9⟩
  · exact ⟨hk', fun hf => by have := h1.lt k hf; omega, fun hg => by have := h2.lt k hg; omega⟩
theorem BothD.below {w0 w w' : World} {d r : Nat} {S S' : Dk.St} {K : Nat → Prop} (h : BothD w0 w d r S S' K) (hb : Below w.heap.size w w') : BothD w0 w' d r S S' K := (h.grow hb).less (fun _ h => .inl h)
theorem BothD.okD {w0 w : World} {d r : Nat} {S S' : Dk.St} {K : Nat → Prop} (h : BothD w0 w d r S S' K) : Dk.Ok S := by
  obtain ⟨F, G, h1, -⟩ := h
  exact h1.ok

theorem BothD.turnD {w0 w w' : World} {d r : Nat} {S2 S' : Dk.St} {F G K : Nat → Prop} (h2 : RDAt w r S' G) (h3 : ∀ k, F k → ¬ G k) (h4 : ∀ k, F k → w0.heap.size ≤ k) (h5 : ∀ k, G k → w0.heap.size ≤ k) (h6 : Below w0.heap.size w0 w) (h7 : ∀ k, K k → k < w.heap.size ∧ ¬ F k ∧ ¬ G k) (ht : Turned w w' d S2 F) :
    BothD w0 w' d r S2 S' K ∧ ∀ k, K k → w'.heap[k]? = w.heap[k]? := by
  obtain ⟨F', ho, hd, hF⟩ := ht
  have hs := h6.size
  have hos := ho.size
  refine ⟨⟨F', G, hd, h2.only ho (fun k hk hf => h3 k hf hk), fun k hk hg => ?_, fun k hk => ?_, h5, h6.trans (ho.toBelow hs h4), fun k hk => ?_⟩, fun k hk => ho.block k (h7 k hk).1 (h7 k hk).2.1⟩
  · rcases hF k hk with h | h
    · exact h3 k h hg
    · have := h2.lt k hg; omega
  · rcases hF k hk with h | h
    · exact h4 k h
    · omega
  · obtain ⟨h8, h9, h10⟩ := h7 k hk
    refine ⟨by omega, fun hf => ?_, h10⟩
    rcases hF k hf with h | h
    · exact h9 h
    · omega
theorem BothD.turnR {w0 w w' : World} {d r : Nat} {S S2 : Dk.St} {F G K : Nat → Prop} (h1 : DiskAt w d S F) (h3 : ∀ k, F k → ¬ G k) (h4 : ∀ k, F k → w0.heap.size ≤ k) (h5 : ∀ k, G k → w0.heap.size ≤ k) (h6 : Below w0.heap.size w0 w) (h7 : ∀ k, K k → k < w.heap.size ∧ ¬ F k ∧ ¬ G k) (ht : RTurned w w' r S2 G) :
    BothD w0 w' d r S S2 K ∧ ∀ k, K k → w'.heap[k]? = w.heap[k]? := by
  obtain ⟨G', ho, hd, hG⟩ := ht
  have hs := h6.size
  have hos := ho.size
  refine ⟨⟨F, G', h1.only ho h3, hd, fun k hk hg => ?_, h4, fun k hk => ?_, h6.trans (ho.toBelow hs h5), fun k hk => ?_⟩, fun k hk => ho.block k (h7 k hk).1 (h7 k hk).2.2⟩
  · rcases hG k hg with h | h
    · exact h3 k hk h
    · have := h1.lt k hk; omega
  · rcases hG k hk with h | h
    · exact h5 k h
    · omega
  · obtain ⟨h8, h9, h10⟩ := h7 k hk
    refine ⟨by omega, h9, fun hg => ?_⟩
    rcases hG k hg with h | h
    · exact h10 h
    · omega
theorem BothD.ofNew {w w1 w2 : World} {d r room : Nat} (hb1 : Below w.heap.size w w1) (hd : DiskAt w1 d (Dk.fresh room) (fun k => k = d)) (hdw : w.heap.size ≤ d) (hb2 : Below w1.heap.size w1 w2) (hr : RDAt w2 r (Dk.fresh room) (fun k => k = r)) (hrw : w1.heap.size ≤ r) : BothD w w2 d r (Dk.fresh room) (Dk.fresh room) (fun _ => False) := by
  have hdl := hd.lt d rfl
  have hs := hb1.size
  exact ⟨_, _, hd.below hb2, hr, fun k hk hg => by have hk : k = d := hk; have hg : k = r := hg; omega, fun k hk => by have hk : k = d := hk; omega, fun k hk => by have hk : k = r := hk; omega, bel_trans hb1 hb2, fun _ h => h.elim⟩

theorem bd_append {w0 w : World} {d r : Nat} {S S' : Dk.St} {K : Nat → Prop} (h : BothD w0 w d r S S' K) (f : Int) (s : ByteArray) (hm : S.loose.length ≤ 1000000000) :
    Calls Try.prog 53 #[ptr d 0, .int .i64 f, .string s] w fun e w' => e = .returned (.int .i64 (Dk.append S f s).1) ∧ BothD w0 w' d r (Dk.append S f s).2 S' K ∧ ∀ k, K k → w'.heap[k]? = w.heap[k]? := by
  obtain ⟨F, G, h1, h2, h3, h4, h5, h6, h7⟩ := h
  exact (append_any w d S F h1 f s hm).mono fun _ _ ⟨he, ht⟩ => ⟨he, BothD.turnD h2 h3 h4 h5 h6 h7 ht⟩
theorem br_append {w0 w : World} {d r : Nat} {S S' : Dk.St} {K : Nat → Prop} (h : BothD w0 w d r S S' K) (f : Int) (s : ByteArray) (hm : S'.loose.length ≤ 1000000000) :
    Calls Try.prog 54 #[ptr r 0, .int .i64 f, .string s] w fun e w' => e = .returned (.int .i64 (Dk.append S' f s).1) ∧ BothD w0 w' d r S (Dk.append S' f s).2 K ∧ ∀ k, K k → w'.heap[k]? = w.heap[k]? := by
  obtain ⟨F, G, h1, h2, h3, h4, h5, h6, h7⟩ := h
  exact (rappend_any w r S' G h2 f s hm).mono fun _ _ ⟨he, ht⟩ => ⟨he, BothD.turnR h1 h3 h4 h5 h6 h7 ht⟩
theorem bd_cut {w0 w : World} {d r : Nat} {S S' : Dk.St} {K : Nat → Prop} (h : BothD w0 w d r S S' K) (f n : Int) (hm : S.loose.length ≤ 1000000000) :
    Calls Try.prog 55 #[ptr d 0, .int .i64 f, .int .i64 n] w fun e w' => e = .returned (.int .i64 (Dk.cut S f n).1) ∧ BothD w0 w' d r (Dk.cut S f n).2 S' K ∧ ∀ k, K k → w'.heap[k]? = w.heap[k]? := by
  obtain ⟨F, G, h1, h2, h3, h4, h5, h6, h7⟩ := h
  exact (cut_any w d S F h1 f n hm).mono fun _ _ ⟨he, ht⟩ => ⟨he, BothD.turnD h2 h3 h4 h5 h6 h7 ht⟩
theorem br_cut {w0 w : World} {d r : Nat} {S S' : Dk.St} {K : Nat → Prop} (h : BothD w0 w d r S S' K) (f n : Int) (hm : S'.loose.length ≤ 1000000000) :
    Calls Try.prog 56 #[ptr r 0, .int .i64 f, .int .i64 n] w fun e w' => e = .returned (.int .i64 (Dk.cut S' f n).1) ∧ BothD w0 w' d r S (Dk.cut S' f n).2 K ∧ ∀ k, K k → w'.heap[k]? = w.heap[k]? := by
  obtain ⟨F, G, h1, h2, h3, h4, h5, h6, h7⟩ := h
  exact (rcut_any w r S' G h2 f n hm).mono fun _ _ ⟨he, ht⟩ => ⟨he, BothD.turnR h1 h3 h4 h5 h6 h7 ht⟩
theorem bd_move {w0 w : World} {d r : Nat} {S S' : Dk.St} {K : Nat → Prop} (h : BothD w0 w d r S S' K) (a b : Int) (hm : S.loose.length ≤ 1000000000) :
    Calls Try.prog 57 #[ptr d 0, .int .i64 a, .int .i64 b] w fun e w' => e = .returned (.int .i64 (Dk.move S a b).1) ∧ BothD w0 w' d r (Dk.move S a b).2 S' K ∧ ∀ k, K k → w'.heap[k]? = w.heap[k]? := by
  obtain ⟨F, G, h1, h2, h3, h4, h5, h6, h7⟩ := h
  exact (move_any w d S F h1 a b hm).mono fun _ _ ⟨he, ht⟩ => ⟨he, BothD.turnD h2 h3 h4 h5 h6 h7 ht⟩
theorem br_move {w0 w : World} {d r : Nat} {S S' : Dk.St} {K : Nat → Prop} (h : BothD w0 w d r S S' K) (a b : Int) (hm : S'.loose.length ≤ 1000000000) :
    Calls Try.prog 58 #[ptr r 0, .int .i64 a, .int .i64 b] w fun e w' => e = .returned (.int .i64 (Dk.move S' a b).1) ∧ BothD w0 w' d r S (Dk.move S' a b).2 K ∧ ∀ k, K k → w'.heap[k]? = w.heap[k]? := by
  obtain ⟨F, G, h1, h2, h3, h4, h5, h6, h7⟩ := h
  exact (rmove_any w r S' G h2 a b hm).mono fun _ _ ⟨he, ht⟩ => ⟨he, BothD.turnR h1 h3 h4 h5 h6 h7 ht⟩
theorem bd_sync {w0 w : World} {d r : Nat} {S S' : Dk.St} {K : Nat → Prop} (h : BothD w0 w d r S S' K)   :
    Calls Try.prog 59 #[ptr d 0] w fun e w' => e = .returned (.int .i64 (Dk.sync S).1) ∧ BothD w0 w' d r (Dk.sync S).2 S' K ∧ ∀ k, K k → w'.heap[k]? = w.heap[k]? := by
  obtain ⟨F, G, h1, h2, h3, h4, h5, h6, h7⟩ := h
  exact (sync_any w d S F h1).mono fun _ _ ⟨he, ho, hd⟩ => ⟨he, BothD.turnD h2 h3 h4 h5 h6 h7 ⟨F, ho.mono (fun i e => e ▸ h1.mem), hd, fun _ hk => .inl hk⟩⟩
theorem br_sync {w0 w : World} {d r : Nat} {S S' : Dk.St} {K : Nat → Prop} (h : BothD w0 w d r S S' K)   :
    Calls Try.prog 60 #[ptr r 0] w fun e w' => e = .returned (.int .i64 (Dk.sync S').1) ∧ BothD w0 w' d r S (Dk.sync S').2 K ∧ ∀ k, K k → w'.heap[k]? = w.heap[k]? := by
  obtain ⟨F, G, h1, h2, h3, h4, h5, h6, h7⟩ := h
  exact (rsync_any w r S' G h2).mono fun _ _ ⟨he, ht⟩ => ⟨he, BothD.turnR h1 h3 h4 h5 h6 h7 ht⟩
theorem bd_power {w0 w : World} {d r : Nat} {S S' : Dk.St} {K : Nat → Prop} (h : BothD w0 w d r S S' K) (n : Int) (hn : n ≤ 9223372036854775807) :
    Calls Try.prog 19 #[ptr d 0, .int .i64 n] w fun e w' => e = .returned (.int .i64 (Dk.power S n).1) ∧ BothD w0 w' d r (Dk.power S n).2 S' K ∧ ∀ k, K k → w'.heap[k]? = w.heap[k]? := by
  obtain ⟨F, G, h1, h2, h3, h4, h5, h6, h7⟩ := h
  exact (power_any w d S F h1 n hn).mono fun _ _ ⟨he, ho, hd⟩ => ⟨he, BothD.turnD h2 h3 h4 h5 h6 h7 ⟨F, ho.mono (fun i e => e ▸ h1.mem), hd, fun _ hk => .inl hk⟩⟩
theorem br_power {w0 w : World} {d r : Nat} {S S' : Dk.St} {K : Nat → Prop} (h : BothD w0 w d r S S' K) (n : Int) (hn : n ≤ 9223372036854775807) :
    Calls Try.prog 27 #[ptr r 0, .int .i64 n] w fun e w' => e = .returned (.int .i64 (Dk.power S' n).1) ∧ BothD w0 w' d r S (Dk.power S' n).2 K ∧ ∀ k, K k → w'.heap[k]? = w.heap[k]? := by
  obtain ⟨F, G, h1, h2, h3, h4, h5, h6, h7⟩ := h
  exact (rpower_any w r S' G h2 n hn).mono fun _ _ ⟨he, ht⟩ => ⟨he, BothD.turnR h1 h3 h4 h5 h6 h7 ht⟩
theorem bd_crash {w0 w : World} {d r : Nat} {S S' : Dk.St} {K : Nat → Prop} (h : BothD w0 w d r S S' K) (a b : Int)  :
    Calls Try.prog 20 #[ptr d 0, .int .i64 a, .int .i64 b] w fun e w' => e = .returned (.tuple #[]) ∧ BothD w0 w' d r (Dk.crash S a b) S' K ∧ ∀ k, K k → w'.heap[k]? = w.heap[k]? := by
  obtain ⟨F, G, h1, h2, h3, h4, h5, h6, h7⟩ := h
  exact (crash_any w d S F h1 a b).mono fun _ _ ⟨he, ho, hd⟩ => ⟨he, BothD.turnD h2 h3 h4 h5 h6 h7 ⟨F, ho, hd, fun _ hk => .inl hk⟩⟩
theorem br_crash {w0 w : World} {d r : Nat} {S S' : Dk.St} {K : Nat → Prop} (h : BothD w0 w d r S S' K) (a b : Int)  :
    Calls Try.prog 28 #[ptr r 0, .int .i64 a, .int .i64 b] w fun e w' => e = .returned (.tuple #[]) ∧ BothD w0 w' d r S (Dk.crash S' a b) K ∧ ∀ k, K k → w'.heap[k]? = w.heap[k]? := by
  obtain ⟨F, G, h1, h2, h3, h4, h5, h6, h7⟩ := h
  exact (rcrash_any w r S' G h2 a b).mono fun _ _ ⟨he, ht⟩ => ⟨he, BothD.turnR h1 h3 h4 h5 h6 h7 ht⟩
theorem bd_read {w0 w : World} {d r : Nat} {S S' : Dk.St} {K : Nat → Prop} (h : BothD w0 w d r S S' K) (f : Int) :
    Calls Try.prog 61 #[ptr d 0, .int .i64 f] w fun e w' => e = .returned (.tuple #[.string (Dk.read S f).1, .int .i64 (Dk.read S f).2]) ∧ Below w.heap.size w w' := by
  obtain ⟨F, G, h1, -⟩ := h
  exact read_any w d S F h1 f
theorem br_read {w0 w : World} {d r : Nat} {S S' : Dk.St} {K : Nat → Prop} (h : BothD w0 w d r S S' K) (f : Int) :
    Calls Try.prog 62 #[ptr r 0, .int .i64 f] w fun e w' => e = .returned (.tuple #[.string (Dk.read S' f).1, .int .i64 (Dk.read S' f).2]) ∧ w = w' := by
  obtain ⟨F, G, h1, h2, -⟩ := h
  exact rread_any w r S' G h2 f
theorem bd_on {w0 w : World} {d r : Nat} {S S' : Dk.St} {K : Nat → Prop} (h : BothD w0 w d r S S' K) :
    Calls Try.prog 26 #[ptr d 0] w fun e w' => e = .returned (.bool (!S.off)) ∧ w' = w := by
  obtain ⟨F, G, h1, -⟩ := h
  exact (on_any w d S F h1).mono fun _ _ ⟨a, b⟩ => ⟨a, b.symm⟩
theorem bd_loose {w0 w : World} {d r : Nat} {S S' : Dk.St} {K : Nat → Prop} (h : BothD w0 w d r S S' K) :
    Calls Try.prog 25 #[ptr d 0] w fun e w' => e = .returned (.int .i64 (S.loose.length : Int)) ∧ w' = w := by
  obtain ⟨F, G, h1, -⟩ := h
  exact (loose_any w d S F h1).mono fun _ _ ⟨a, b⟩ => ⟨a, b.symm⟩
theorem bd_left {w0 w : World} {d r : Nat} {S S' : Dk.St} {K : Nat → Prop} (h : BothD w0 w d r S S' K) :
    Calls Try.prog 89 #[ptr d 0] w fun e w' => e = .returned (.int .i64 (Dk.leftOf S)) ∧ w' = w := by
  obtain ⟨F, G, h1, -⟩ := h
  exact (left_any w d S F h1).mono fun _ _ ⟨a, b⟩ => ⟨a, b.symm⟩
theorem br_left {w0 w : World} {d r : Nat} {S S' : Dk.St} {K : Nat → Prop} (h : BothD w0 w d r S S' K) :
    Calls Try.prog 110 #[ptr r 0] w fun e w' => e = .returned (.int .i64 (Dk.leftOf S')) ∧ w' = w := by
  obtain ⟨F, G, h1, h2, -⟩ := h
  exact (rleft_any w r S' G h2).mono fun _ _ ⟨a, b⟩ => ⟨a, b.symm⟩
theorem br_cells {w0 w : World} {d r : Nat} {S S' : Dk.St} {K : Nat → Prop} (h : BothD w0 w d r S S' K) : ∃ la lc, r < w.heap.size ∧ w.cell? ⟨r, 33, none⟩ = some (.slice la S'.loose.length lc) ∧ w.cell? ⟨r, 34, none⟩ = some (.bool S'.off) := by
  obtain ⟨F, G, h1, h2, -⟩ := h
  obtain ⟨lv, hc, hl, -⟩ := h2.cells
  obtain ⟨c33, c34, -⟩ := diskC_rest h2.ok lv
  obtain ⟨la, lc, rfl⟩ := (Reads.own hl).shape
  exact ⟨la, lc, (Array.getElem?_eq_some_iff.1 hc).1, cells_at hc 33 _ c33, cells_at hc 34 _ c34⟩

def stepOp (S : Dk.St) (o : Dop) : Dk.St :=
  if o.kind = 0 then (Dk.append S o.f o.s).2 else if o.kind = 1 then (Dk.cut S o.f o.n).2 else if o.kind = 2 then (Dk.move S o.f o.n).2 else if o.kind = 3 then (Dk.sync S).2 else if o.kind = 5 then (Dk.power S o.n).2 else if o.kind = 6 then Dk.crash S o.n o.m else S
theorem change_len (S : Dk.St) (c : Dk.Ch) : (Dk.change S c).2.loose.length ≤ S.loose.length + 1 := by
  unfold Dk.change
  split <;> simp
theorem step_len (S : Dk.St) (o : Dop) : (stepOp S o).loose.length ≤ S.loose.length + 1 := by
  unfold stepOp
  split
  · unfold Dk.append
    split
    · simp
    · split
      · simp
      · exact change_len _ _
  · split
    · unfold Dk.cut
      split
      · simp
      · split
        · simp
        · exact change_len _ _
    · split
      · unfold Dk.move
        split
        · simp
        · split
          · simp
          · exact change_len _ _
      · split
        · unfold Dk.sync
          split
          · simp
          · split <;> simp
        · split
          · unfold Dk.power
            split
            · simp
            · split <;> simp
          · split
            · simp [Dk.crash]
            · simp

end Go.Proofs.Ytllecjhfbojgcaa

/-
  Does walked.
-/
namespace Go.Proofs.Ytllecjhfbojgcaa
open Go.RowKit
set_option maxRecDepth 20000

set_option maxHeartbeats 8000000 in
set_option maxRecDepth 100000 in
theorem does_any {w0 w : World} {d r : Nat} {S : Dk.St} (h : BothD w0 w d r S S (fun _ => False)) (k f n m : Int) (s : ByteArray) (hm : S.loose.length ≤ 1000000000) (hn : n ≤ 9223372036854775807) :
    Calls Try.prog 23 #[ptr d 0, ptr r 0, .agg #[.int .i64 k, .int .i64 f, .int .i64 n, .int .i64 m, .string s]] w fun e w' => e = .returned (.bool true) ∧ BothD w0 w' d r (stepOp S ⟨k, f, n, m, s⟩) (stepOp S ⟨k, f, n, m, s⟩) (fun _ => False) := by
  have hVo := heap_alloc_new w (.cells #[.int .i64 k, .int .i64 f, .int .i64 n, .int .i64 m, .string s] 51)
  have hSV := (h.grow (bel_alloc w (.cells #[.int .i64 k, .int .i64 f, .int .i64 n, .int .i64 m, .string s] 51))).less (K' := fun x => x = w.heap.size) (fun x hx => .inr ⟨Nat.le_of_eq hx.symm, by rw [hx]; simp⟩)
  obtain ⟨V, hV⟩ : ∃ V, w.alloc (.cells #[.int .i64 k, .int .i64 f, .int .i64 n, .int .i64 m, .string s] 51) = V := ⟨_, rfl⟩
  obtain ⟨bo, hbo⟩ : ∃ b, w.heap.size = b := ⟨_, rfl⟩
  rw [hV] at hVo hSV
  rw [hbo] at hVo hSV
  have x0 := cells_at hVo 0 _ rfl
  have x1 := cells_at hVo 1 _ rfl
  have x2 := cells_at hVo 2 _ rfl
  have x3 := cells_at hVo 3 _ rfl
  have x4 := cells_at hVo 4 _ rfl
  simp only [List.getElem_toArray, List.getElem_cons_zero, List.getElem_cons_succ] at x0 x1 x2 x3 x4
  have HVO := Lib.hid hVo
  have HSV := Lib.hid hSV
  clear h hVo hSV
  unfold ptr
  by_cases h0 : k = 0
  · subst h0
    have hres : stepOp S ⟨0, f, n, m, s⟩ = (Dk.append S f s).2 := by simp [stepOp]
    rw [hres]
    have HRS := Lib.hid hres
    clear hres
    go_enter Try.func23, Try.ntmps23
    go_upto_region 1 with fail
    clear hV
    go_wp2_with fail
    refine wp_region_free [0, 1, 2, 3, 4, 6, 7, 8, 9, 10] 12 (fun W' => W'.heap[bo]? = some (.cells #[.int .i64 0, .int .i64 f, .int .i64 n, .int .i64 m, .string s] 51)) (by kernel_rfl) (by kernel_rfl) ?_
    change wpYields _ _ _ _ [_, _, _, _, _, _, _, _, _, _] _
    iterate 10 (refine yields_step (fun K hK => ?_); apply Exists.intro; apply And.intro; (apply yields_at rfl; rintro W' hb; have c1 := cells_at hb 1 _ rfl; have c2 := cells_at hb 2 _ rfl; have c4 := cells_at hb 4 _ rfl; simp only [List.getElem_toArray, List.getElem_cons_zero, List.getElem_cons_succ] at c1 c2 c4; go_simp; first | done | rfl); go_simp; refine hK _ ?_; clear hK K)
    refine yields_nil ?_
    refine anyP_one (k := 5) (by kernel_rfl) (by decide) rfl rfl HVO.out ?_
    refine wpP_step rfl (fun K hK => ?_)
    go_simp
    go_at_call 53
    refine (bd_append (HSV.out.below (bel_drew V)) f s hm).mono ?_
    rintro e w5 ⟨rfl, h5, hk5⟩
    have hVO5 : w5.heap[bo]? = _ := (hk5 bo rfl).trans HVO.out
    refine hK _ _ ?_
    clear hK K
    refine anyP_one (k := 11) (by kernel_rfl) (by decide) rfl rfl hVO5 ?_
    refine wpP_step rfl (fun K hK => ?_)
    go_simp
    go_at_call 54
    refine (br_append h5 f s hm).mono ?_
    rintro e w6 ⟨rfl, h6, hk6⟩
    have hVO6 : w6.heap[bo]? = _ := (hk6 bo rfl).trans hVO5
    have H6 := Lib.hid (h6.less (K' := fun _ => False) (fun _ h => h.elim))
    refine hK _ _ ?_
    clear hK K
    refine anyP_leaf hVO6 (by kernel_rfl) ?_
    simp only [List.drop_succ_cons, List.drop_zero]
    clear h5 hk5 h6 hk6 hVO5 hVO6
    go_wp2_with fail
    go_ret
    exact ⟨by simp, H6.out⟩
  by_cases h1 : k = 1
  · subst h1
    clear h0
    have hres : stepOp S ⟨1, f, n, m, s⟩ = (Dk.cut S f n).2 := by simp [stepOp]
    rw [hres]
    have HRS := Lib.hid hres
    clear hres
    go_enter Try.func23, Try.ntmps23
    go_upto_region 1 with fail
    clear hV
    go_wp2_with fail
    refine wp_region_free [0, 1, 2, 3, 4, 6, 7, 8, 9, 10] 12 (fun W' => W'.heap[bo]? = some (.cells #[.int .i64 1, .int .i64 f, .int .i64 n, .int .i64 m, .string s] 51)) (by kernel_rfl) (by kernel_rfl) ?_
    change wpYields _ _ _ _ [_, _, _, _, _, _, _, _, _, _] _
    iterate 10 (refine yields_step (fun K hK => ?_); apply Exists.intro; apply And.intro; (apply yields_at rfl; rintro W' hb; have c1 := cells_at hb 1 _ rfl; have c2 := cells_at hb 2 _ rfl; have c4 := cells_at hb 4 _ rfl; simp only [List.getElem_toArray, List.getElem_cons_zero, List.getElem_cons_succ] at c1 c2 c4; go_simp; first | done | rfl); go_simp; refine hK _ ?_; clear hK K)
    refine yields_nil ?_
    refine anyP_one (k := 5) (by kernel_rfl) (by decide) rfl rfl HVO.out ?_
    refine wpP_step rfl (fun K hK => ?_)
    go_simp
    go_at_call 55
    refine (bd_cut (HSV.out.below (bel_drew V)) f n hm).mono ?_
    rintro e w5 ⟨rfl, h5, hk5⟩
    have hVO5 : w5.heap[bo]? = _ := (hk5 bo rfl).trans HVO.out
    refine hK _ _ ?_
    clear hK K
    refine anyP_one (k := 11) (by kernel_rfl) (by decide) rfl rfl hVO5 ?_
    refine wpP_step rfl (fun K hK => ?_)
    go_simp
    go_at_call 56
    refine (br_cut h5 f n hm).mono ?_
    rintro e w6 ⟨rfl, h6, hk6⟩
    have hVO6 : w6.heap[bo]? = _ := (hk6 bo rfl).trans hVO5
    have H6 := Lib.hid (h6.less (K' := fun _ => False) (fun _ h => h.elim))
    refine hK _ _ ?_
    clear hK K
    refine anyP_leaf hVO6 (by kernel_rfl) ?_
    simp only [List.drop_succ_cons, List.drop_zero]
    clear h5 hk5 h6 hk6 hVO5 hVO6
    go_wp2_with fail
    go_ret
    exact ⟨by simp, H6.out⟩
  by_cases h2 : k = 2
  · subst h2
    clear h0 h1
    have hres : stepOp S ⟨2, f, n, m, s⟩ = (Dk.move S f n).2 := by simp [stepOp]
    rw [hres]
    have HRS := Lib.hid hres
    clear hres
    go_enter Try.func23, Try.ntmps23
    go_upto_region 1 with fail
    clear hV
    go_wp2_with fail
    refine wp_region_free [0, 1, 2, 3, 4, 6, 7, 8, 9, 10] 12 (fun W' => W'.heap[bo]? = some (.cells #[.int .i64 2, .int .i64 f, .int .i64 n, .int .i64 m, .string s] 51)) (by kernel_rfl) (by kernel_rfl) ?_
    change wpYields _ _ _ _ [_, _, _, _, _, _, _, _, _, _] _
    iterate 10 (refine yields_step (fun K hK => ?_); apply Exists.intro; apply And.intro; (apply yields_at rfl; rintro W' hb; have c1 := cells_at hb 1 _ rfl; have c2 := cells_at hb 2 _ rfl; have c4 := cells_at hb 4 _ rfl; simp only [List.getElem_toArray, List.getElem_cons_zero, List.getElem_cons_succ] at c1 c2 c4; go_simp; first | done | rfl); go_simp; refine hK _ ?_; clear hK K)
    refine yields_nil ?_
    refine anyP_one (k := 5) (by kernel_rfl) (by decide) rfl rfl HVO.out ?_
    refine wpP_step rfl (fun K hK => ?_)
    go_simp
    go_at_call 57
    refine (bd_move (HSV.out.below (bel_drew V)) f n hm).mono ?_
    rintro e w5 ⟨rfl, h5, hk5⟩
    have hVO5 : w5.heap[bo]? = _ := (hk5 bo rfl).trans HVO.out
    refine hK _ _ ?_
    clear hK K
    refine anyP_one (k := 11) (by kernel_rfl) (by decide) rfl rfl hVO5 ?_
    refine wpP_step rfl (fun K hK => ?_)
    go_simp
    go_at_call 58
    refine (br_move h5 f n hm).mono ?_
    rintro e w6 ⟨rfl, h6, hk6⟩
    have hVO6 : w6.heap[bo]? = _ := (hk6 bo rfl).trans hVO5
    have H6 := Lib.hid (h6.less (K' := fun _ => False) (fun _ h => h.elim))
    refine hK _ _ ?_
    clear hK K
    refine anyP_leaf hVO6 (by kernel_rfl) ?_
    simp only [List.drop_succ_cons, List.drop_zero]
    clear h5 hk5 h6 hk6 hVO5 hVO6
    go_wp2_with fail
    go_ret
    exact ⟨by simp, H6.out⟩
  by_cases h3 : k = 3
  · subst h3
    clear h0 h1 h2
    have hres : stepOp S ⟨3, f, n, m, s⟩ = (Dk.sync S).2 := by simp [stepOp]
    rw [hres]
    have HRS := Lib.hid hres
    clear hres
    go_enter Try.func23, Try.ntmps23
    go_upto_region 1 with fail
    clear hV
    go_wp2_with fail
    refine (bd_sync HSV.out).mono ?_
    rintro e w5 ⟨rfl, h5, hk5⟩
    have H5 := Lib.hid h5
    clear h5 hk5
    go_wp2_with fail
    refine (br_sync H5.out).mono ?_
    rintro e w6 ⟨rfl, h6, hk6⟩
    have H6 := Lib.hid (h6.less (K' := fun _ => False) (fun _ h => h.elim))
    clear h6 hk6
    go_wp2_with fail
    go_ret
    exact ⟨by simp, H6.out⟩
  by_cases h4 : k = 4
  · subst h4
    clear h0 h1 h2 h3
    have hres : stepOp S ⟨4, f, n, m, s⟩ = S := by simp [stepOp]
    rw [hres]
    have HRS := Lib.hid hres
    clear hres
    go_enter Try.func23, Try.ntmps23
    go_upto_region 1 with fail
    clear hV
    go_wp2_with fail
    refine (bd_read HSV.out f).mono ?_
    rintro e w5 ⟨rfl, hb5⟩
    have H5 := Lib.hid (HSV.out.below hb5)
    have hVO5 : w5.heap[bo]? = _ := (hb5.block bo (Array.getElem?_eq_some_iff.1 HVO.out).1).trans HVO.out
    have y1 := cells_at hVO5 1 _ rfl
    simp only [List.getElem_toArray, List.getElem_cons_zero, List.getElem_cons_succ] at y1
    clear hb5 hVO5
    go_wp2_with fail
    refine (br_read H5.out f).mono ?_
    rintro e w6 ⟨rfl, rfl⟩
    obtain ⟨rv, hrv⟩ : ∃ x, (Dk.read S f).1 = x := ⟨_, rfl⟩
    obtain ⟨re, hre⟩ : ∃ x, (Dk.read S f).2 = x := ⟨_, rfl⟩
    rw [hrv, hre]
    clear hrv hre
    go_wp2_with fail
    go_ret
    exact ⟨by simp, H5.out.less (fun _ h => h.elim)⟩
  by_cases h5 : k = 5
  · subst h5
    clear h0 h1 h2 h3 h4
    have hres : stepOp S ⟨5, f, n, m, s⟩ = (Dk.power S n).2 := by simp [stepOp]
    rw [hres]
    have HRS := Lib.hid hres
    clear hres
    go_enter Try.func23, Try.ntmps23
    go_upto_region 1 with fail
    clear hV
    go_wp2_with fail
    refine wp_region_free [0, 1, 2, 4, 5, 6] 8 (fun W' => W'.heap[bo]? = some (.cells #[.int .i64 5, .int .i64 f, .int .i64 n, .int .i64 m, .string s] 51)) (by kernel_rfl) (by kernel_rfl) ?_
    change wpYields _ _ _ _ [_, _, _, _, _, _] _
    iterate 6 (refine yields_step (fun K hK => ?_); apply Exists.intro; apply And.intro; (apply yields_at rfl; rintro W' hb; have c1 := cells_at hb 1 _ rfl; have c2 := cells_at hb 2 _ rfl; have c4 := cells_at hb 4 _ rfl; simp only [List.getElem_toArray, List.getElem_cons_zero, List.getElem_cons_succ] at c1 c2 c4; go_simp; first | done | rfl); go_simp; refine hK _ ?_; clear hK K)
    refine yields_nil ?_
    refine anyP_one (k := 3) (by kernel_rfl) (by decide) rfl rfl HVO.out ?_
    refine wpP_step rfl (fun K hK => ?_)
    go_simp
    go_at_call 19
    refine (bd_power (HSV.out.below (bel_drew V)) n hn).mono ?_
    rintro e w5 ⟨rfl, h5, hk5⟩
    have hVO5 : w5.heap[bo]? = _ := (hk5 bo rfl).trans HVO.out
    refine hK _ _ ?_
    clear hK K
    refine anyP_one (k := 7) (by kernel_rfl) (by decide) rfl rfl hVO5 ?_
    refine wpP_step rfl (fun K hK => ?_)
    go_simp
    go_at_call 27
    refine (br_power h5 n hn).mono ?_
    rintro e w6 ⟨rfl, h6, hk6⟩
    have hVO6 : w6.heap[bo]? = _ := (hk6 bo rfl).trans hVO5
    have H6 := Lib.hid (h6.less (K' := fun _ => False) (fun _ h => h.elim))
    refine hK _ _ ?_
    clear hK K
    refine anyP_leaf hVO6 (by kernel_rfl) ?_
    simp only [List.drop_succ_cons, List.drop_zero]
    clear h5 hk5 h6 hk6 hVO5 hVO6
    go_wp2_with fail
    go_ret
    exact ⟨by simp, H6.out⟩
  by_cases h6 : k = 6
  · subst h6
    clear h0 h1 h2 h3 h4 h5
    have hres : stepOp S ⟨6, f, n, m, s⟩ = Dk.crash S n m := by simp [stepOp]
    rw [hres]
    have HRS := Lib.hid hres
    clear hres
    go_enter Try.func23, Try.ntmps23
    go_upto_region 1 with fail
    clear hV
    go_wp2_with fail
    refine (bd_crash HSV.out n m).mono ?_
    rintro e w5 ⟨rfl, h5, hk5⟩
    have hVO5 : w5.heap[bo]? = _ := (hk5 bo rfl).trans HVO.out
    have y2 := cells_at hVO5 2 _ rfl
    have y3 := cells_at hVO5 3 _ rfl
    simp only [List.getElem_toArray, List.getElem_cons_zero, List.getElem_cons_succ] at y2 y3
    have H5 := Lib.hid h5
    clear h5 hk5 hVO5
    go_wp2_with fail
    refine (br_crash H5.out n m).mono ?_
    rintro e w6 ⟨rfl, h6, hk6⟩
    have H6 := Lib.hid (h6.less (K' := fun _ => False) (fun _ h => h.elim))
    clear h6 hk6
    go_wp2_with fail
    go_ret
    exact ⟨rfl, H6.out⟩
  have q0 : (k == 0) = false := by simpa using h0
  have q1 : (k == 1) = false := by simpa using h1
  have q2 : (k == 2) = false := by simpa using h2
  have q3 : (k == 3) = false := by simpa using h3
  have q4 : (k == 4) = false := by simpa using h4
  have q5 : (k == 5) = false := by simpa using h5
  have q6 : (k == 6) = false := by simpa using h6
  have hres : stepOp S ⟨k, f, n, m, s⟩ = S := by simp [stepOp, h0, h1, h2, h3, h5, h6]
  rw [hres]
  clear hres h0 h1 h2 h3 h4 h5 h6
  go_enter Try.func23, Try.ntmps23
  go_upto_region 1 with fail
  clear hV
  go_wp2_with fail
  go_ret
  exact ⟨rfl, HSV.out.less (fun _ h => h.elim)⟩

end Go.Proofs.Ytllecjhfbojgcaa
