/-
  The records of a file's bytes; what Open leaves, plainly.
-/
import Derived.Test.YtllecjhfbojgcaaFrameAll
import Derived.Test.YtllecjhfbojgcaaLogPut
import Derived.Test.YtllecjhfbojgcaaStillRound
namespace Go.Proofs.Ytllecjhfbojgcaa
open Go.RowKit
set_option maxRecDepth 20000

namespace Lg
def recOf (y : Nat × List UInt8) : Rec := ⟨UInt8.ofNat y.1, ⟨y.2.toArray⟩⟩
def recsOf (items : List (Nat × List UInt8)) : List Rec := items.map recOf
/-- The whole frames that the bytes begin with. -/
def parse (s : ByteArray) : List Rec := recsOf (Cl.allF s.size s.data.toList).1
theorem recs_snoc (items : List (Nat × List UInt8)) (k : Nat) (y : Nat × List UInt8) (h : items[k]? = some y) : recsOf (items.take (k + 1)) = recsOf (items.take k) ++ [recOf y] := by
  unfold recsOf
  rw [List.take_add_one, h]
  simp
theorem recs_bytes (items : List (Nat × List UInt8)) : (bytesOf (recsOf items)).length = lens items := by
  induction items with
  | nil => rfl
  | cons y items ih =>
    have h1 : (bytesOf (recsOf (y :: items))).length = (frameB (recOf y)).length + (bytesOf (recsOf items)).length := by simp [recsOf, bytesOf]
    rw [h1, ih]
    simp [lens, frameB, recOf]
/-- Open of a file that can be read, in which what is torn can be cut off. -/
def opened (D : Dk.St) (file : Int) : Dk.St :=
  if (bytesOf (parse (Dk.read D file).1)).length < (Dk.read D file).1.size then (Dk.sync (Dk.cut D file (bytesOf (parse (Dk.read D file).1)).length).2).2 else D
end Lg

/-- A row may lie in a block of cells alone. -/
theorem RowAt.move {w w' : World} {e : TypeId} {size : Nat} {v : Value} {n : Nat} {xs : List Value} (h : RowAt w e size v n xs) (hk : ∀ g cur, v.ownBlock = some g → w.heap[g]? = some (.cells cur e) → w'.heap[g]? = w.heap[g]?) : RowAt w' e size v n xs :=
  h.kept fun g hg => by
    obtain ⟨cur, hc⟩ := h.type g hg
    exact hk g cur hg hc

/-- In the midst of Open: the log's block is n₀, its pointer's box is the next, the iterator's is the one behind. -/
def OpenAt (w1 : World) (n₀ d : Nat) (file : Int) (rs : List Lg.Rec) (W : World) : Prop :=
  ∃ lv, W.heap[n₀]? = some (.cells #[ptr d 0, .int .i64 file, lv, .int .i64 0] 155) ∧ RowAt W 162 3 lv rs.length (Lg.cells rs) ∧ (∀ g, lv.ownBlock = some g → n₀ + 3 ≤ g) ∧
    Boxed W (n₀ + 1) 93 (.pointer (some ⟨n₀, 0, none⟩)) ∧ Below n₀ w1 W ∧ n₀ + 3 ≤ W.heap.size

theorem OpenAt.stands {w1 : World} {n₀ d B : Nat} {file : Int} {rs : List Lg.Rec} (hB : n₀ + 3 ≤ B) (hs : n₀ ≤ w1.heap.size) : Stands B (n₀ + 2) (OpenAt w1 n₀ d file rs) := by
  rintro W W' row ⟨lv, h1, h2, h3, h4, h5, h6⟩ hg hr
  have hbk : ∀ b cs T, W.heap[b]? = some (.cells cs T) → b ≠ n₀ + 2 → W'.heap[b]? = W.heap[b]? := fun b cs T hb hne => by
    refine hg.block b (Array.getElem?_eq_some_iff.1 hb).1 (fun e => ?_)
    rcases hr b e.symm with h | ⟨_, o, ho, hc⟩
    · exact hne h
    · rw [hb] at ho
      cases ho
      cases hc
  refine ⟨lv, (hbk _ _ _ h1 (by omega)).trans h1, h2.move (fun g cur hgo hgc => hbk g _ _ hgc (by have := h3 g hgo; omega)), h3, (hbk _ _ _ h4 (by omega)).trans h4, ?_, Nat.le_trans h6 hg.size⟩
  exact Stands.below (B := B) (x := n₀ + 2) (by omega) (by omega) hs W W' row h5 hg hr

theorem OpenAt.log {w1 W : World} {n₀ d : Nat} {file : Int} {rs : List Lg.Rec} (h : OpenAt w1 n₀ d file rs W) (hsz : (Lg.bytesOf rs).length ≤ 1000000000) :
    ∃ G : Nat → Prop, LogAt W n₀ d file ⟨rs, 0⟩ G ∧ ∀ g, G g → n₀ ≤ g ∧ ∃ cur T, W.heap[g]? = some (.cells cur T) := by
  obtain ⟨lv, h1, h2, h3, h4, h5, h6⟩ := h
  refine ⟨fun g => g = n₀ ∨ lv.ownBlock = some g, ⟨.inl rfl, fun k hk => ?_, hsz, Nat.zero_le _, lv, h1, h2, fun g hg => .inr hg⟩, fun g hg => ?_⟩
  · rcases hk with rfl | hk
    · omega
    · obtain ⟨cur, hc⟩ := h2.type k hk
      exact (Array.getElem?_eq_some_iff.1 hc).1
  · rcases hg with rfl | hg
    · exact ⟨Nat.le_refl _, _, _, h1⟩
    · have := h3 g hg
      obtain ⟨cur, hc⟩ := h2.type g hg
      exact ⟨by omega, _, _, hc⟩

/-- Behind a round: a record was appended, and the row stored. -/
theorem OpenAt.next {w1 W W1 w3 : World} {n₀ d g cap : Nat} {file : Int} {rs : List Lg.Rec} {r : Lg.Rec} {lv : Value} {xs : List Value} (h1 : W.heap[n₀]? = some (.cells #[ptr d 0, .int .i64 file, lv, .int .i64 0] 155)) (h2 : RowAt W 162 3 lv rs.length (Lg.cells rs)) (h3 : ∀ g, lv.ownBlock = some g → n₀ + 3 ≤ g)
    (h4 : Boxed W (n₀ + 1) 93 (.pointer (some ⟨n₀, 0, none⟩))) (h5 : Below n₀ w1 W) (h6 : n₀ + 3 ≤ W.heap.size) (hW : Below W.heap.size W W1) (hgr : W1.grownBy w3 lv.ownBlock)
    (hown : w3.ownsRow 0 162 3 (.slice (some ⟨g, 0, none⟩) (rs.length + 1) cap) (rs.length + 1) (Lg.cells rs ++ xs)) (hxs : Lg.cells rs ++ xs = Lg.cells (rs ++ [r])) (hat : lv.ownBlock = some g ∨ W.heap.size ≤ g) (hs1 : n₀ ≤ w1.heap.size) :
    KeepsFrom (n₀ + 3) W (w3.setCell ⟨n₀, 2, none⟩ (.slice (some ⟨g, 0, none⟩) (rs.length + 1) cap)) ∧ (w3.setCell ⟨n₀, 2, none⟩ (.slice (some ⟨g, 0, none⟩) (rs.length + 1) cap)).heap[n₀ + 2]? = W.heap[n₀ + 2]? ∧
    OpenAt w1 n₀ d file (rs ++ [r]) (w3.setCell ⟨n₀, 2, none⟩ (.slice (some ⟨g, 0, none⟩) (rs.length + 1) cap)) := by
  have hWs := hW.size
  have hgs := hgr.size
  have hkeep : ∀ k, k < W.heap.size → lv.ownBlock ≠ some k → w3.heap[k]? = W.heap[k]? := fun k hk hne => (hgr.block k (by omega) (fun e => hne e.symm)).trans (hW.block k hk)
  have hset : ∀ k, k ≠ n₀ → (w3.setCell ⟨n₀, 2, none⟩ (.slice (some ⟨g, 0, none⟩) (rs.length + 1) cap)).heap[k]? = w3.heap[k]? := fun k hk => Below.heap_setCell _ _ _ _ (by exact hk)
  have hfar : ∀ k, k < n₀ + 3 → lv.ownBlock ≠ some k := fun k hk e => by have := h3 k e; omega
  have hgge : n₀ + 3 ≤ g := by
    rcases hat with h | h
    · exact h3 g h
    · omega
  refine ⟨⟨by simp; omega, fun k o hk ho hc => ?_⟩, ?_, .slice (some ⟨g, 0, none⟩) (rs.length + 1) cap, ?_, ?_, fun b hb => ?_, ?_, ?_, ?_⟩
  · rw [hset k (by omega), hkeep k (Array.getElem?_eq_some_iff.1 ho).1 (fun e => ?_)]
    · exact ho
    · obtain ⟨cur, hcur⟩ := h2.type k e
      rw [hcur] at ho
      cases ho
      cases hc
  · rw [hset _ (by omega), hkeep _ (by omega) (hfar _ (by omega))]
  · have hc3 : w3.heap[n₀]? = some (.cells #[ptr d 0, .int .i64 file, lv, .int .i64 0] 155) := (hkeep n₀ (by omega) (hfar _ (by omega))).trans h1
    rw [cells_set hc3]
    rfl
  · refine .inl ?_
    show World.ownsRow _ 0 _ 3 _ (rs ++ [r]).length _
    rw [List.length_append]
    rw [hxs] at hown
    refine own_kept hown (fun b hb => ?_)
    simp only [Value.ownBlock, Option.some.injEq] at hb
    subst hb
    exact hset _ (by omega)
  · simp only [Value.ownBlock, Option.some.injEq] at hb
    omega
  · exact ((hset _ (by omega)).trans (hkeep _ (by omega) (hfar _ (by omega)))).trans h4
  · have hb3 : Below n₀ w1 w3 := (h5.trans (hW.mono (by omega))).grown hgr (by have := h5.size; omega) (fun k e => by have := h3 k e; omega)
    exact hb3.setCell (p := ⟨n₀, 2, none⟩) (by exact Nat.le_refl _) _
  · simp
    omega

/-- Behind the loop, and what is cut off: all are sure; the loop's bag is emptied. -/
theorem open_end {w Y : World} {n d Db : Nat} {file : Int} {rs : List Lg.Rec} {F F' G : Nat → Prop} {D' : Dk.St} (hon : Only F w Y) (hD : DiskAt Y d D' F') (hL : LogAt Y n d file ⟨rs, 0⟩ G) (hF : ∀ k, F' k → F k ∨ w.heap.size ≤ k) (hdis : ∀ k, F' k → ¬ G k)
    (hG : ∀ k, G k → w.heap.size ≤ k) (hDb : w.heap.size ≤ Db) (hFD : ∀ k, F' k → k ≠ Db) (hGD : ∀ k, G k → k ≠ Db) :
    Turned2 w ((Y.setCell ⟨n, 3, none⟩ (.int .i64 (rs.length : Int))).drew.putObj Db (.deferred none)) n d file D' ⟨rs, rs.length⟩ F (fun _ => False) := by
  obtain ⟨s1, s2⟩ := hL.setSure rs.length (Nat.le_refl _)
  have hp : Only (fun k => k = Db) (Y.setCell ⟨n, 3, none⟩ (.int .i64 (rs.length : Int))) ((Y.setCell ⟨n, 3, none⟩ (.int .i64 (rs.length : Int))).drew.putObj Db (.deferred none)) :=
    ⟨rfl, rfl, rfl, by rw [World.putObj_size]; exact Nat.le_refl _, fun k _ hk => World.putObj_heap_other hk⟩
  have hD2 : DiskAt (Y.setCell ⟨n, 3, none⟩ (.int .i64 (rs.length : Int))) d D' F' := hD.only s1 (fun k hk e => hdis k hk (e ▸ hL.mem))
  refine ⟨F', G, ?_, hD2.only hp hFD, s2.only hp hGD, hdis, hF, fun k hk => .inr (hG k hk)⟩
  refine ((hon.mono (fun _ h => .inl h)).trans' s1 (fun i e => .inr (e ▸ hG n hL.mem))).trans' hp (fun i e => .inr (e ▸ hDb))

end Go.Proofs.Ytllecjhfbojgcaa
