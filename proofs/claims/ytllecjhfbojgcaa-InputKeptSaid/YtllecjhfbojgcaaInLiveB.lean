/-
  An input that is being opened: beside it the map's block.
-/
import Derived.Test.YtllecjhfbojgcaaInMap
import Derived.Test.YtllecjhfbojgcaaLogWorks
namespace Go.Proofs.Ytllecjhfbojgcaa
open Go.RowKit
set_option maxRecDepth 20000

def InLiveB (w0 : Fr) (w : World) (n d l0 l1 : Nat) (lv : Value) (S : InSt) (b : Nat) : Prop :=
  ∃ F G0 G1 N, InAt w0 w n d l0 l1 lv S F G0 G1 N ∧ b < w.heap.size ∧ ¬ F b ∧ ¬ G0 b ∧ ¬ G1 b ∧ ¬ N b ∧ ¬ w0.K b

theorem InLiveB.live {w0 : Fr} {w : World} {n d l0 l1 : Nat} {lv : Value} {S : InSt} {b : Nat} (h : InLiveB w0 w n d l0 l1 lv S b) : InLive w0 w n d l0 l1 lv S := by
  obtain ⟨F, G0, G1, N, h, -⟩ := h
  exact ⟨F, G0, G1, N, h⟩
theorem InAt.keep {w0 : Fr} {w w' : World} {n d l0 l1 : Nat} {lv : Value} {S : InSt} {F G0 G1 N K : Nat → Prop} (h : InAt w0 w n d l0 l1 lv S F G0 G1 N) (ho : Only K w w') (hK : ∀ k, K k → ¬ F k ∧ ¬ G0 k ∧ ¬ G1 k ∧ ¬ N k ∧ ¬ w0.K k) : InAt w0 w' n d l0 l1 lv S F G0 G1 N := by
  have hs := ho.size
  exact ⟨h.old.only ho (fun i hi => (hK i hi).2.2.2.2), h.disk.only ho (fun k hk hq => (hK k hq).1 hk), h.log0.only ho (fun k hk hq => (hK k hq).2.1 hk), h.log1.only ho (fun k hk hq => (hK k hq).2.2.1 hk),
    (ho.block n (h.lt n h.mem) (fun hq => (hK n hq).2.2.2.1 h.mem)).trans h.cell, h.row.kept (fun g hg => ho.block g (h.lt g (h.own g hg)) (fun hq => (hK g hq).2.2.2.1 (h.own g hg))), h.mem, h.own, fun k hk => Nat.lt_of_lt_of_le (h.lt k hk) hs, h.f0, h.f1, h.fn, h.g01, h.g0n, h.g1n, h.new⟩
theorem InLiveB.below {w0 : Fr} {w w' : World} {n d l0 l1 : Nat} {lv : Value} {S : InSt} {b : Nat} (h : InLiveB w0 w n d l0 l1 lv S b) (hb : Below w.heap.size w w') : InLiveB w0 w' n d l0 l1 lv S b := by
  obtain ⟨F, G0, G1, N, h, h1, h2⟩ := h
  exact ⟨F, G0, G1, N, h.keep (K := fun _ => False) (Only.below hb) (fun _ h => h.elim), Nat.lt_of_lt_of_le h1 hb.size, h2⟩
theorem InLiveB.map {w0 : Fr} {w w' : World} {n d l0 l1 : Nat} {lv : Value} {S : InSt} {b : Nat} (h : InLiveB w0 w n d l0 l1 lv S b) (ho : Only (fun k => k = b) w w') : InLiveB w0 w' n d l0 l1 lv S b := by
  obtain ⟨F, G0, G1, N, h, h1, h2, h3, h4, h5, h6⟩ := h
  exact ⟨F, G0, G1, N, h.keep ho (fun k hk => by rw [show k = b from hk]; exact ⟨h2, h3, h4, h5, h6⟩), Nat.lt_of_lt_of_le h1 ho.size, h2, h3, h4, h5, h6⟩
theorem InLiveB.bne {w0 : Fr} {w : World} {n d l0 l1 : Nat} {lv : Value} {S : InSt} {b : Nat} (h : InLiveB w0 w n d l0 l1 lv S b) : b ≠ n ∧ lv.ownBlock ≠ some b := by
  obtain ⟨F, G0, G1, N, h, h1, h2, h3, h4, h5, h6⟩ := h
  exact ⟨fun e => h5 (e ▸ h.mem), fun e => h5 (h.own b e)⟩

/-- The two logs that were opened, over one disk, with the box and the map's block. -/
theorem InLiveB.ofOpen {w0 : Fr} {w w1 X w2 Y : World} {n b d l0 l1 : Nat} {D2 : Dk.St} {L0 L1 : Lg.St} {F : Nat → Prop}
    (hold : Since w0 w) (hF : ∀ k, F k → ¬ w0.K k) (hFn : ¬ F n) (hFb : ¬ F b) (hn : ¬ w0.K n) (hb : ¬ w0.K b) (hnb : n ≠ b) (hnw : n < w.heap.size) (hbw : b < w.heap.size)
    {F1 G0 : Nat → Prop} (o1 : Only (fun k => F k ∨ False) w w1) (g0 : LogAt w1 l0 d 0 L0 G0) (fg1 : ∀ k, F1 k → ¬ G0 k) (f1 : ∀ k, F1 k → F k ∨ w.heap.size ≤ k) (gn1 : ∀ k, G0 k → False ∨ w.heap.size ≤ k) (hX : Only (fun k => k = n) w1 X)
    (ht2 : Turned2 X w2 l1 d 1 D2 L1 F1 (fun _ => False)) (hY : Only (fun k => k = n) w2 Y) (hc : Y.heap[n]? = some (.cells #[ptr l0 0, ptr l1 0, .slice none 0 0] 96)) :
    InLiveB w0 Y n d l0 l1 (.slice none 0 0) ⟨D2, L0, L1, []⟩ b := by
  have hs1 := o1.size
  have hsX := hX.size
  have hF1n : ¬ F1 n := fun h => by rcases f1 n h with h | h; exact hFn h; omega
  have hG0n : ¬ G0 n := fun h => by rcases gn1 n h with h | h; exact h; omega
  have hF1b : ¬ F1 b := fun h => by rcases f1 b h with h | h; exact hFb h; omega
  have hG0b : ¬ G0 b := fun h => by rcases gn1 b h with h | h; exact h; omega
  have gX := g0.only hX (fun k hk e => hG0n (by rw [← show k = n from e]; exact hk))
  obtain ⟨F2, G1, o2, d2, g1, fg2, f2, gn2⟩ := ht2
  have hs2 := o2.size
  have hsY := hY.size
  have hF2n : ¬ F2 n := fun h => by rcases f2 n h with h | h; exact hF1n h; omega
  have hF2b : ¬ F2 b := fun h => by rcases f2 b h with h | h; exact hF1b h; omega
  have hG1n : ¬ G1 n := fun h => by rcases gn2 n h with h | h; exact h; omega
  have hG1b : ¬ G1 b := fun h => by rcases gn2 b h with h | h; exact h; omega
  have g02 := gX.only o2 (fun k hk e => by rcases e with e | e; exact fg1 k e hk; exact e)
  have hbel : Since w0 Y := by
    have a1 := hold.only o1 (fun i hi => by rcases hi with h | h; exact hF i h; exact h.elim)
    have a2 := a1.only hX (fun i hi => by rw [show i = n from hi]; exact hn)
    have a3 := a2.only o2 (fun i hi => by
      rcases hi with h | h
      · rcases f1 i h with h | h
        · exact hF i h
        · exact hold.fresh h
      · exact h.elim)
    exact a3.only hY (fun i hi => by rw [show i = n from hi]; exact hn)
  refine ⟨F2, G0, G1, fun k => k = n, ⟨hbel, d2.only hY (fun k hk e => hF2n (by rw [← show k = n from e]; exact hk)), g02.only hY (fun k hk e => hG0n (by rw [← show k = n from e]; exact hk)), g1.only hY (fun k hk e => hG1n (by rw [← show k = n from e]; exact hk)), hc, .inl (World.ownsRow_nil _ _ _ _), rfl, fun g hg => by simp [Value.ownBlock] at hg, fun k hk => ?_, fun k hk hg => ?_, fg2, fun k hk e => hF2n (by rw [← show k = n from e]; exact hk), fun k hk hg => ?_, fun k hk e => hG0n (by rw [← show k = n from e]; exact hk), fun k hk e => hG1n (by rw [← show k = n from e]; exact hk), fun k hk => ?_⟩, by omega, hF2b, hG0b, hG1b, fun e => hnb (show b = n from e).symm, hb⟩
  · rw [show k = n from hk]; exact (Array.getElem?_eq_some_iff.1 hc).1
  · rcases f2 k hk with h | h
    · exact fg1 k h hg
    · have := gX.lt k hg; omega
  · rcases gn2 k hg with h | h
    · exact h
    · have := gX.lt k hk; omega
  · rcases hk with hk | hk | hk | hk
    · rcases f2 k hk with h | h
      · rcases f1 k h with h | h
        · exact hF k h
        · exact hold.fresh h
      · exact hold.fresh (by omega)
    · rcases gn1 k hk with h | h
      · exact h.elim
      · exact hold.fresh h
    · rcases gn2 k hk with h | h
      · exact h.elim
      · exact hold.fresh (by omega)
    · rw [show k = n from hk]; exact hn

/-- Behind the append of a record, and the store of the row. -/
theorem in_row_at {w0 : Fr} {w W w3 : World} {n d l0 l1 g cap : Nat} {lv : Value} {S : InSt} {x : InR} {F G0 G1 N : Nat → Prop} (h : InAt w0 w n d l0 l1 lv S F G0 G1 N)
    (hW : Below w.heap.size w W) (hgr : W.grownBy w3 lv.ownBlock) (hown : w3.ownsRow 0 32 3 (.slice (some ⟨g, 0, none⟩) (S.rs.length + 1) cap) (S.rs.length + 1) (inCells S.rs ++ [.int .i64 x.part, .int .i64 x.key, .int .i64 x.val]))
    (hat : lv.ownBlock = some g ∨ W.heap.size ≤ g) (hglt : g < w3.heap.size) :
    InAt w0 (w3.setCell ⟨n, 2, none⟩ (.slice (some ⟨g, 0, none⟩) (S.rs.length + 1) cap)) n d l0 l1 (.slice (some ⟨g, 0, none⟩) (S.rs.length + 1) cap) (S.row x) F G0 G1 (fun k => N k ∨ k = g) := by
  obtain ⟨-, -, hlne⟩ := (show InLive w0 w n d l0 l1 lv S from ⟨F, G0, G1, N, h⟩).cells
  have hlt := h.lt n h.mem
  have hWs := hW.size
  have hgs := hgr.size
  have hkeep : ∀ k, k < w.heap.size → some k ≠ lv.ownBlock → w3.heap[k]? = w.heap[k]? := fun k hk hne => (hgr.block k (by omega) hne).trans (hW.block k hk)
  have hc3 : w3.heap[n]? = some (.cells #[ptr l0 0, ptr l1 0, lv] 96) := (hkeep n hlt (Ne.symm hlne)).trans h.cell
  have hgl : g ≠ n := by
    rcases hat with h | h
    · intro e; rw [e] at h; exact hlne h
    · omega
  have hset : ∀ k, k ≠ n → (w3.setCell ⟨n, 2, none⟩ (.slice (some ⟨g, 0, none⟩) (S.rs.length + 1) cap)).heap[k]? = w3.heap[k]? := fun k hk => Below.heap_setCell _ _ _ _ (by exact hk)
  have ho : Only N w (w3.setCell ⟨n, 2, none⟩ (.slice (some ⟨g, 0, none⟩) (S.rs.length + 1) cap)) := by
    refine ⟨hgr.os.trans hW.os, hgr.tape.trans hW.tape, hgr.output.trans hW.output, by simp; omega, fun k hk hs => ?_⟩
    rw [hset k (fun e => hs (e ▸ h.mem)), hkeep k hk (fun e => hs (h.own k e.symm))]
  have hgo : ∀ k, (N k ∨ k = g) → N k ∨ w.heap.size ≤ k := fun k hk => by
    rcases hk with hk | hk
    · exact .inl hk
    · rcases hat with h1 | h1
      · exact .inl (hk ▸ h.own g h1)
      · right; omega
  refine ⟨h.old.only ho (fun i hi => h.new i (.inr (.inr (.inr hi)))), h.disk.only ho h.fn, h.log0.only ho h.g0n, h.log1.only ho h.g1n, ?_, ?_, .inl h.mem, fun b hb => ?_, fun k hk => ?_, h.f0, h.f1, dis_new' hgo h.fn h.disk.lt, h.g01, dis_new' hgo h.g0n h.log0.lt, dis_new' hgo h.g1n h.log1.lt, fun k hk => ?_⟩
  · rw [cells_set hc3]
    rfl
  · refine .inl ?_
    show World.ownsRow _ 0 _ 3 _ (S.rs ++ [x]).length (inCells (S.rs ++ [x]))
    rw [List.length_append, inCells_snoc]
    refine own_kept hown (fun b hb => ?_)
    simp only [Value.ownBlock, Option.some.injEq] at hb
    subst hb
    exact hset _ hgl
  · simp only [Value.ownBlock, Option.some.injEq] at hb
    exact .inr hb.symm
  · simp only [World.size_setCell]
    rcases hk with hk | hk
    · have := h.lt k hk; omega
    · omega
  · rcases hk with hk | hk | hk | hk
    · exact h.new k (.inl hk)
    · exact h.new k (.inr (.inl hk))
    · exact h.new k (.inr (.inr (.inl hk)))
    · rcases hgo k hk with e | e
      · exact h.new k (.inr (.inr (.inr e)))
      · exact h.old.fresh e

theorem InLiveB.row {w0 : Fr} {w W w3 : World} {n d l0 l1 g cap b : Nat} {lv : Value} {S : InSt} {x : InR} (h : InLiveB w0 w n d l0 l1 lv S b)
    (hW : Below w.heap.size w W) (hgr : W.grownBy w3 lv.ownBlock) (hown : w3.ownsRow 0 32 3 (.slice (some ⟨g, 0, none⟩) (S.rs.length + 1) cap) (S.rs.length + 1) (inCells S.rs ++ [.int .i64 x.part, .int .i64 x.key, .int .i64 x.val]))
    (hat : lv.ownBlock = some g ∨ W.heap.size ≤ g) (hglt : g < w3.heap.size) :
    InLiveB w0 (w3.setCell ⟨n, 2, none⟩ (.slice (some ⟨g, 0, none⟩) (S.rs.length + 1) cap)) n d l0 l1 (.slice (some ⟨g, 0, none⟩) (S.rs.length + 1) cap) (S.row x) b ∧ (w3.setCell ⟨n, 2, none⟩ (.slice (some ⟨g, 0, none⟩) (S.rs.length + 1) cap)).heap[b]? = w.heap[b]? := by
  obtain ⟨hbn, hbl⟩ := h.bne
  obtain ⟨F, G0, G1, N, h, h1, h2, h3, h4, h5, h6⟩ := h
  have hs := hW.size
  have hs3 := hgr.size
  refine ⟨⟨F, G0, G1, _, in_row_at h hW hgr hown hat hglt, by simp only [World.size_setCell]; omega, h2, h3, h4, fun e => ?_, h6⟩, ?_⟩
  · rcases e with e | e
    · exact h5 e
    · rcases hat with h7 | h7
      · exact h5 (e ▸ h.own g h7)
      · omega
  · rw [Below.heap_setCell _ _ _ _ (by show b ≠ n; exact hbn), hgr.block b (by omega) (fun e => hbl e.symm)]
    exact hW.block b h1

end Go.Proofs.Ytllecjhfbojgcaa
