/-
  The reference's input in memory; its logs' calls; Cuts walked.
-/
import Derived.Test.YtllecjhfbojgcaaRefLog
import Derived.Test.YtllecjhfbojgcaaInOpenE
import Derived.Test.YtllecjhfbojgcaaInCuts
import Derived.Test.YtllecjhfbojgcaaInGrows
import Derived.Deep.AppendLies
namespace Go.Proofs.Ytllecjhfbojgcaa
open Go.RowKit
set_option maxRecDepth 20000

structure RInAt (f : Fr) (w : World) (m r l0 l1 : Nat) (sv lv : Value) (S : InSt) (F G0 G1 N : Nat → Prop) : Prop where
  old : Since f w
  disk : RDAt w r S.D F
  log0 : RLogAt w l0 r 0 S.L0 G0
  log1 : RLogAt w l1 r 1 S.L1 G1
  cell : w.heap[m]? = some (.cells #[sv, lv] 64)
  logs : w.ownsRow 0 119 1 sv 2 [ptr l0 0, ptr l1 0]
  row : w.ownsRow 0 32 3 lv S.rs.length (inCells S.rs)
  mem : N m
  own : ∀ g, sv.ownBlock = some g ∨ lv.ownBlock = some g → N g
  lt : ∀ k, N k → k < w.heap.size
  f0 : ∀ k, F k → ¬ G0 k
  f1 : ∀ k, F k → ¬ G1 k
  fn : ∀ k, F k → ¬ N k
  g01 : ∀ k, G0 k → ¬ G1 k
  g0n : ∀ k, G0 k → ¬ N k
  g1n : ∀ k, G1 k → ¬ N k
  new : ∀ k, F k ∨ G0 k ∨ G1 k ∨ N k → ¬ f.K k

def RInLive (f : Fr) (w : World) (m r l0 l1 : Nat) (sv lv : Value) (S : InSt) : Prop := ∃ F G0 G1 N, RInAt f w m r l0 l1 sv lv S F G0 G1 N

theorem RInAt.keep {f : Fr} {w w' : World} {m r l0 l1 : Nat} {sv lv : Value} {S : InSt} {F G0 G1 N K : Nat → Prop} (h : RInAt f w m r l0 l1 sv lv S F G0 G1 N) (ho : Only K w w') (hK : ∀ k, K k → ¬ F k ∧ ¬ G0 k ∧ ¬ G1 k ∧ ¬ N k ∧ ¬ f.K k) : RInAt f w' m r l0 l1 sv lv S F G0 G1 N := by
  have hs := ho.size
  have hN : ∀ k, N k → w'.heap[k]? = w.heap[k]? := fun k hk => ho.block k (h.lt k hk) (fun hq => (hK k hq).2.2.2.1 hk)
  exact ⟨h.old.only ho (fun i hi => (hK i hi).2.2.2.2), h.disk.only ho (fun k hk hq => (hK k hq).1 hk), h.log0.only ho (fun k hk hq => (hK k hq).2.1 hk), h.log1.only ho (fun k hk hq => (hK k hq).2.2.1 hk),
    (hN m h.mem).trans h.cell, own_kept h.logs (fun g hg => hN g (h.own g (.inl hg))), own_kept h.row (fun g hg => hN g (h.own g (.inr hg))), h.mem, h.own, fun k hk => Nat.lt_of_lt_of_le (h.lt k hk) hs, h.f0, h.f1, h.fn, h.g01, h.g0n, h.g1n, h.new⟩
theorem RInLive.below {f : Fr} {w w' : World} {m r l0 l1 : Nat} {sv lv : Value} {S : InSt} (h : RInLive f w m r l0 l1 sv lv S) (hb : Below w.heap.size w w') : RInLive f w' m r l0 l1 sv lv S := by
  obtain ⟨F, G0, G1, N, h⟩ := h
  exact ⟨F, G0, G1, N, h.keep (K := fun _ => False) (Only.below hb) (fun _ h => h.elim)⟩
theorem RInLive.old {f : Fr} {w : World} {m r l0 l1 : Nat} {sv lv : Value} {S : InSt} (h : RInLive f w m r l0 l1 sv lv S) : Since f w := by
  obtain ⟨F, G0, G1, N, h⟩ := h
  exact h.old

theorem RInAt.turn0 {f : Fr} {w w' : World} {m r l0 l1 : Nat} {sv lv : Value} {S : InSt} {F G0 G1 N : Nat → Prop} (h : RInAt f w m r l0 l1 sv lv S F G0 G1 N) {D : Dk.St} {L : Lg.St} (ht : RTurned2 w w' l0 r 0 D L F G0) : RInLive f w' m r l0 l1 sv lv { S with D := D, L0 := L } := by
  obtain ⟨F', G', ho, h1, h2, h3, h4, h5⟩ := ht
  have k1 : ∀ k, G1 k → ¬ (F k ∨ G0 k) := fun k hk hf => hf.elim (fun e => h.f1 k e hk) (fun e => h.g01 k e hk)
  have kn : ∀ k, N k → ¬ (F k ∨ G0 k) := fun k hk hf => hf.elim (fun e => h.fn k e hk) (fun e => h.g0n k e hk)
  have hN : ∀ k, N k → w'.heap[k]? = w.heap[k]? := fun k hk => ho.block k (h.lt k hk) (kn k hk)
  refine ⟨F', G', G1, N, h.old.only ho (fun i hi => h.new i (hi.elim .inl (fun e => .inr (.inl e)))), h1, h2, h.log1.only ho k1, (hN m h.mem).trans h.cell, own_kept h.logs (fun g hg => hN g (h.own g (.inl hg))), own_kept h.row (fun g hg => hN g (h.own g (.inr hg))), h.mem, h.own, fun k hk => Nat.lt_of_lt_of_le (h.lt k hk) ho.size, h3, dis_new h4 h.f1 h.log1.lt, dis_new h4 h.fn h.lt, dis_new h5 h.g01 h.log1.lt, dis_new h5 h.g0n h.lt, h.g1n, fun k hk => ?_⟩
  rcases hk with hk | hk | hk
  · rcases h4 k hk with e | e
    · exact h.new k (.inl e)
    · exact h.old.fresh e
  · rcases h5 k hk with e | e
    · exact h.new k (.inr (.inl e))
    · exact h.old.fresh e
  · exact h.new k (.inr (.inr hk))
theorem RInAt.turn1 {f : Fr} {w w' : World} {m r l0 l1 : Nat} {sv lv : Value} {S : InSt} {F G0 G1 N : Nat → Prop} (h : RInAt f w m r l0 l1 sv lv S F G0 G1 N) {D : Dk.St} {L : Lg.St} (ht : RTurned2 w w' l1 r 1 D L F G1) : RInLive f w' m r l0 l1 sv lv { S with D := D, L1 := L } := by
  obtain ⟨F', G', ho, h1, h2, h3, h4, h5⟩ := ht
  have k1 : ∀ k, G0 k → ¬ (F k ∨ G1 k) := fun k hk hf => hf.elim (fun e => h.f0 k e hk) (fun e => h.g01 k hk e)
  have kn : ∀ k, N k → ¬ (F k ∨ G1 k) := fun k hk hf => hf.elim (fun e => h.fn k e hk) (fun e => h.g1n k e hk)
  have hN : ∀ k, N k → w'.heap[k]? = w.heap[k]? := fun k hk => ho.block k (h.lt k hk) (kn k hk)
  refine ⟨F', G0, G', N, h.old.only ho (fun i hi => h.new i (hi.elim .inl (fun e => .inr (.inr (.inl e))))), h1, h.log0.only ho k1, h2, (hN m h.mem).trans h.cell, own_kept h.logs (fun g hg => hN g (h.own g (.inl hg))), own_kept h.row (fun g hg => hN g (h.own g (.inr hg))), h.mem, h.own, fun k hk => Nat.lt_of_lt_of_le (h.lt k hk) ho.size, dis_new h4 h.f0 h.log0.lt, h3, dis_new h4 h.fn h.lt, dis_new' h5 h.g01 h.log0.lt, h.g0n, dis_new h5 h.g1n h.lt, fun k hk => ?_⟩
  rcases hk with hk | hk | hk | hk
  · rcases h4 k hk with e | e
    · exact h.new k (.inl e)
    · exact h.old.fresh e
  · exact h.new k (.inr (.inl hk))
  · rcases h5 k hk with e | e
    · exact h.new k (.inr (.inr (.inl e)))
    · exact h.old.fresh e
  · exact h.new k (.inr (.inr (.inr hk)))

/-- Put and Sync of a part's log. -/
def InSt.putp (S : InSt) (p : Nat) (r : Lg.Rec) : Int × InSt := if p = 0 then S.put0 r else S.put1 r
def InSt.syncp (S : InSt) (p : Nat) : Int × InSt := if p = 0 then S.sync0 else S.sync1
def lpOf (l0 l1 p : Nat) : Nat := if p = 0 then l0 else l1

theorem rin_put {f : Fr} {w : World} {m r l0 l1 : Nat} {sv lv : Value} {S : InSt} (h : RInLive f w m r l0 l1 sv lv S) (p : Nat) (hp : p < 2) (x : Lg.Rec) (hk0 : x.kind.toNat ≠ 0) (hsz : x.text.size ≤ 65536) (hm : S.D.loose.length ≤ 1000000000) (h0 : S.L0.rs.length ≤ 900000000) (h1 : S.L1.rs.length ≤ 900000000) :
    Calls Try.prog 66 #[ptr (lpOf l0 l1 p) 0, .int .u8 (x.kind.toNat : Int), .string x.text] w fun e w' => e = .returned (.int .i64 (S.putp p x).1) ∧ RInLive f w' m r l0 l1 sv lv (S.putp p x).2 := by
  obtain ⟨F, G0, G1, N, h⟩ := h
  rcases (show p = 0 ∨ p = 1 by omega) with rfl | rfl
  · exact (rlogput_good w l0 r 0 S.D S.L0 F G0 h.disk h.log0 h.f0 x hk0 hsz hm h0).mono fun _ _ ⟨a, b⟩ => ⟨a, h.turn0 b⟩
  · exact (rlogput_good w l1 r 1 S.D S.L1 F G1 h.disk h.log1 h.f1 x hk0 hsz hm h1).mono fun _ _ ⟨a, b⟩ => ⟨a, h.turn1 b⟩
theorem rin_sync {f : Fr} {w : World} {m r l0 l1 : Nat} {sv lv : Value} {S : InSt} (h : RInLive f w m r l0 l1 sv lv S) (p : Nat) (hp : p < 2) :
    Calls Try.prog 68 #[ptr (lpOf l0 l1 p) 0] w fun e w' => e = .returned (.int .i64 (S.syncp p).1) ∧ RInLive f w' m r l0 l1 sv lv (S.syncp p).2 := by
  obtain ⟨F, G0, G1, N, h⟩ := h
  rcases (show p = 0 ∨ p = 1 by omega) with rfl | rfl
  · exact (rlogsync_any w l0 r 0 S.D S.L0 F G0 h.disk h.log0 h.f0).mono fun _ _ ⟨a, b⟩ => ⟨a, h.turn0 b⟩
  · exact (rlogsync_any w l1 r 1 S.D S.L1 F G1 h.disk h.log1 h.f1).mono fun _ _ ⟨a, b⟩ => ⟨a, h.turn1 b⟩
theorem add_is (S : InSt) (p : Nat) (hp : p < 2) (k v : Int) (hn : S.rs.length < 500) :
    S.add ⟨(p : Int), k, v⟩ = if (S.putp p (S.ent ⟨(p : Int), k, v⟩)).1 ≠ 0 then S.putp p (S.ent ⟨(p : Int), k, v⟩) else ((S.putp p (S.ent ⟨(p : Int), k, v⟩)).2.row ⟨(p : Int), k, v⟩).syncp p := by
  unfold InSt.add
  rw [if_neg (by show ¬ ((p : Int) < 0 ∨ 2 ≤ (p : Int)); omega), if_neg (by omega)]
  rcases (show p = 0 ∨ p = 1 by omega) with rfl | rfl <;> rfl

/-- The cells of a live input. -/
theorem RInLive.cells {f : Fr} {w : World} {m r l0 l1 : Nat} {sv lv : Value} {S : InSt} (h : RInLive f w m r l0 l1 sv lv S) :
    w.heap[m]? = some (.cells #[sv, lv] 64) ∧ w.ownsRow 0 32 3 lv S.rs.length (inCells S.rs) ∧ ∃ sb sc, sv = .slice (some ⟨sb, 0, none⟩) 2 sc ∧ sb < w.heap.size ∧ ∀ p : Nat, p < 2 → w.cell? ⟨sb, p, none⟩ = some (ptr (lpOf l0 l1 p) 0) := by
  obtain ⟨F, G0, G1, N, h⟩ := h
  refine ⟨h.cell, h.row, ?_⟩
  rcases h.logs.2 with ⟨-, h0⟩ | ⟨g, cap, cur, hv, -, h2, -, -, h5, h6⟩
  · omega
  · refine ⟨g, cap, hv, (Array.getElem?_eq_some_iff.1 h2).1, fun p hp => cells_at h2 p _ ?_⟩
    have hp2 : cur.toList[p]? = ([ptr l0 0, ptr l1 0] : List Value)[p]? := by
      rw [← h6, List.getElem?_take]
      rw [if_pos (by omega)]
    rw [Array.getElem?_toList] at hp2
    rw [hp2]
    rcases (show p = 0 ∨ p = 1 by omega) with rfl | rfl <;> rfl

/-- The reference's input, and blocks that are none of its. -/
def RInK (w0 : Fr) (w : World) (m r l0 l1 : Nat) (sv lv : Value) (S : InSt) (K : Nat → Prop) : Prop :=
  ∃ F G0 G1 N, RInAt w0 w m r l0 l1 sv lv S F G0 G1 N ∧ ∀ k, K k → k < w.heap.size ∧ ¬ F k ∧ ¬ G0 k ∧ ¬ G1 k ∧ ¬ N k
theorem RInK.live {w0 : Fr} {w : World} {m r l0 l1 : Nat} {sv lv : Value} {S : InSt} {K : Nat → Prop} (h : RInK w0 w m r l0 l1 sv lv S K) : RInLive w0 w m r l0 l1 sv lv S := by
  obtain ⟨F, G0, G1, N, h, -⟩ := h
  exact ⟨F, G0, G1, N, h⟩
theorem RInK.old {w0 : Fr} {w : World} {m r l0 l1 : Nat} {sv lv : Value} {S : InSt} {K : Nat → Prop} (h : RInK w0 w m r l0 l1 sv lv S K) : Since w0 w := h.live.old
theorem RInLive.keep {w0 : Fr} {w : World} {m r l0 l1 : Nat} {sv lv : Value} {S : InSt} (h : RInLive w0 w m r l0 l1 sv lv S) : RInK w0 w m r l0 l1 sv lv S (fun _ => False) := by
  obtain ⟨F, G0, G1, N, h⟩ := h
  exact ⟨F, G0, G1, N, h, fun _ h => h.elim⟩
theorem RInK.less {w0 : Fr} {w : World} {m r l0 l1 : Nat} {sv lv : Value} {S : InSt} {K K' : Nat → Prop} (h : RInK w0 w m r l0 l1 sv lv S K) (hk : ∀ k, K' k → K k) : RInK w0 w m r l0 l1 sv lv S K' := by
  obtain ⟨F, G0, G1, N, h, h2⟩ := h
  exact ⟨F, G0, G1, N, h, fun k hk' => h2 k (hk k hk')⟩
theorem RInK.only {w0 : Fr} {w w' : World} {m r l0 l1 : Nat} {sv lv : Value} {S : InSt} {K P : Nat → Prop} (h : RInK w0 w m r l0 l1 sv lv S K) (ho : Only P w w') (hP : ∀ k, P k → K k ∧ ¬ w0.K k) : RInK w0 w' m r l0 l1 sv lv S (fun k => K k ∨ (w.heap.size ≤ k ∧ k < w'.heap.size)) := by
  obtain ⟨F, G0, G1, N, h, h2⟩ := h
  have hs := ho.size
  refine ⟨F, G0, G1, N, h.keep ho (fun k hk => ?_), fun k hk => ?_⟩
  · obtain ⟨a, b⟩ := hP k hk
    obtain ⟨c1, c2, c3, c4, c5⟩ := h2 k a
    exact ⟨c2, c3, c4, c5, b⟩
  · rcases hk with hk | ⟨hk, hk'⟩
    · obtain ⟨c1, c2⟩ := h2 k hk
      exact ⟨by omega, c2⟩
    · exact ⟨hk', fun e => by have := h.disk.lt k e; omega, fun e => by have := h.log0.lt k e; omega, fun e => by have := h.log1.lt k e; omega, fun e => by have := h.lt k e; omega⟩
theorem RInK.grow {w0 : Fr} {w w' : World} {m r l0 l1 : Nat} {sv lv : Value} {S : InSt} {K : Nat → Prop} (h : RInK w0 w m r l0 l1 sv lv S K) (hb : Below w.heap.size w w') : RInK w0 w' m r l0 l1 sv lv S (fun k => K k ∨ (w.heap.size ≤ k ∧ k < w'.heap.size)) :=
  h.only (P := fun _ => False) (Only.below hb) (fun _ h => h.elim)
theorem RInAt.back {w0 : Fr} {w w' : World} {hs : Since w0 w} {K : Nat → Prop} {hK : ∀ k, K k → k < w.heap.size} {m r l0 l1 : Nat} {sv lv : Value} {S : InSt} {F G0 G1 N : Nat → Prop} (h : RInAt (w0.more hs K hK) w' m r l0 l1 sv lv S F G0 G1 N) :
    RInK w0 w' m r l0 l1 sv lv S K ∧ (∀ k, K k → w'.heap[k]? = w.heap[k]?) ∧ w.heap.size ≤ w'.heap.size := by
  obtain ⟨h1, h2⟩ := Since.more h.old
  have hsz : w.heap.size ≤ w'.heap.size := h.old.size
  refine ⟨⟨F, G0, G1, N, ⟨h1, h.disk, h.log0, h.log1, h.cell, h.logs, h.row, h.mem, h.own, h.lt, h.f0, h.f1, h.fn, h.g01, h.g0n, h.g1n, fun k hk e => h.new k hk (.inl e)⟩, fun k hk => ?_⟩, h2, hsz⟩
  have hk2 := hK k hk
  exact ⟨by omega, fun e => h.new k (.inl e) (.inr hk), fun e => h.new k (.inr (.inl e)) (.inr hk), fun e => h.new k (.inr (.inr (.inl e))) (.inr hk), fun e => h.new k (.inr (.inr (.inr e))) (.inr hk)⟩
theorem RInK.call {w0 : Fr} {w : World} {m r l0 l1 : Nat} {sv lv : Value} {S : InSt} {K : Nat → Prop} (h : RInK w0 w m r l0 l1 sv lv S K) :
    ∃ f : Fr, RInLive f w m r l0 l1 sv lv S ∧ ∀ w' m' l0' l1' sv' lv' S', RInLive f w' m' r l0' l1' sv' lv' S' → RInK w0 w' m' r l0' l1' sv' lv' S' K ∧ (∀ k, K k → w'.heap[k]? = w.heap[k]?) ∧ w.heap.size ≤ w'.heap.size := by
  obtain ⟨F, G0, G1, N, h, h2⟩ := h
  refine ⟨w0.more h.old K (fun k hk => (h2 k hk).1), ⟨F, G0, G1, N, Since.refl _ _ _, h.disk, h.log0, h.log1, h.cell, h.logs, h.row, h.mem, h.own, h.lt, h.f0, h.f1, h.fn, h.g01, h.g0n, h.g1n, fun k hk e => ?_⟩, fun w' m' l0' l1' sv' lv' S' h' => ?_⟩
  · rcases e with e | e
    · exact h.new k hk e
    · obtain ⟨-, c2, c3, c4, c5⟩ := h2 k e
      rcases hk with hk | hk | hk | hk
      · exact c2 hk
      · exact c3 hk
      · exact c4 hk
      · exact c5 hk
  · obtain ⟨F', G0', G1', N', h'⟩ := h'
    exact h'.back

set_option maxHeartbeats 4000000 in
theorem rcuts_any {f : Fr} {w : World} {m r l0 l1 : Nat} {sv lv : Value} {S : InSt} (h : RInLive f w m r l0 l1 sv lv S) (k : Nat) (hk : k ≤ S.rs.length) (h0 : 0 < S.rs.length) (hn : S.rs.length ≤ 500) (hp : ∀ x ∈ S.rs, x.part = 0 ∨ x.part = 1) :
    Calls Try.prog 31 #[ptr m 0, .int .i64 (k : Int)] w fun e w' => ∃ g, e = .returned (.slice (some ⟨g, 0, none⟩) 2 2) ∧ w.heap.size ≤ g ∧ Below w.heap.size w w' ∧ w'.heap[g]? = some (.cells #[.int .i64 (inCnt 0 (S.rs.take k) : Int), .int .i64 (inCnt 1 (S.rs.take k) : Int)] 3) := by
  obtain ⟨hc, hr, -⟩ := h.cells
  have hrr := Reads.own hr
  obtain ⟨b, o, cap, rfl, hcap, hcm, hblt, hcells⟩ := hrr.some h0
  have HC := Lib.hid hc
  have HCELLS := Lib.hid hcells
  have HP := Lib.hid hp
  have hmlt := (Array.getElem?_eq_some_iff.1 hc).1
  obtain ⟨q, hm⟩ : ∃ q, S.rs.length = q := ⟨_, rfl⟩
  have HM := Lib.hid hm
  rw [hm] at hk h0 hn hcap
  unfold maxLen at hcm
  obtain ⟨W, hW⟩ : ∃ W, w.alloc (.cells #[.int .i64 0, .int .i64 0] 3) = W := ⟨_, rfl⟩
  have hbW : Below w.heap.size w W := by rw [← hW]; exact bel_alloc _ _
  have hg : W.heap[w.heap.size]? = some (.cells #[.int .i64 0, .int .i64 0] 3) := by rw [← hW]; exact heap_alloc_new w _
  have HW := Lib.hid hW
  have HBW := Lib.hid hbW
  have HG := Lib.hid hg
  obtain ⟨g, hgg⟩ : ∃ g, w.heap.size = g := ⟨_, rfl⟩
  rw [hgg] at HG
  have HGG := Lib.hid hgg
  clear h hc hr hrr hcells hp hm hW hbW hg
  unfold ptr
  go_enter Try.func31, Try.ntmps31
  go_wp2_with fail
  rw [HW.out]
  clear hgg
  go_loopw [6] (fun i wr => ∃ j : Nat, j ≤ k ∧ i = .int .i64 (j : Int) ∧ Hid (Below w.heap.size w wr) ∧ Hid (wr.heap[g]? = some (.cells #[.int .i64 (inCnt 0 (S.rs.take j) : Int), .int .i64 (inCnt 1 (S.rs.take j) : Int)] 3))) (fun i _ => k - (intOf i).toNat)
  case atStart => exact ⟨0, Nat.zero_le _, rfl, HBW, HG⟩
  case round =>
    obtain ⟨j, hj, rfl, HBR, HGR⟩ := hrel
    by_cases hlt : j < k
    · obtain ⟨x, hx⟩ : ∃ x, S.rs[j]? = some x := ⟨S.rs[j]'(by rw [HM.out]; omega), by simp⟩
      obtain ⟨i0, i1, i2⟩ := inCells_at S.rs j x hx
      have r0 := (World.cell?_of_block (HBR.out.block b hblt)).trans (HCELLS.out _ _ i0)
      have c1 := cells_at ((HBR.out.block m hmlt).trans HC.out) 1 _ rfl
      have hxp := HP.out x (List.mem_of_getElem? hx)
      have hgl : g < wr.heap.size := (Array.getElem?_eq_some_iff.1 HGR.out).1
      have hjk : (j : Int) < (k : Int) := by omega
      have hjq : (j : Int) < (q : Int) := by omega
      have hc0 := inCnt_le 0 (S.rs.take j)
      have hc1 := inCnt_le 1 (S.rs.take j)
      have htl : (S.rs.take j).length ≤ 500 := by rw [List.length_take]; omega
      have HT := Lib.hid (show S.rs.take (j + 1) = S.rs.take j ++ [x] by rw [List.take_add_one, hx]; rfl)
      obtain ⟨A, hA⟩ : ∃ A, inCnt 0 (S.rs.take j) = A := ⟨_, rfl⟩
      obtain ⟨B, hB⟩ : ∃ B, inCnt 1 (S.rs.take j) = B := ⟨_, rfl⟩
      rw [hA] at hc0
      rw [hB] at hc1
      rw [hA, hB] at HGR
      have HA := Lib.hid hA
      have HBB := Lib.hid hB
      rw [HM.out] at c1
      clear i0 i1 i2 hx hA hB
      obtain ⟨p, kk, vv⟩ := x
      have y0 := cells_at HGR.out 0 _ rfl
      have y1 := cells_at HGR.out 1 _ rfl
      have z0 := cells_free HGR.out 0
      have z1 := cells_free HGR.out 1
      simp only [List.getElem_toArray, List.getElem_cons_zero, List.getElem_cons_succ] at r0 y0 y1 c1
      have eA : IntKind.i64.wrap ((A : Int) + 1) = (A : Int) + 1 := IntWalk.i64_in _ (by omega)
      have eB : IntKind.i64.wrap ((B : Int) + 1) = (B : Int) + 1 := IntWalk.i64_in _ (by omega)
      have hgw : w.heap.size ≤ g := by rw [HGG.out]; exact Nat.le_refl _
      rcases hxp with hxp | hxp
      · have hxp : p = 0 := hxp
        subst hxp
        go_wp2_with fail
        go_roundw
        case rel =>
          refine ⟨j + 1, by omega, by go_num, Lib.hid (HBR.out.setCell (p := ⟨g, 0, none⟩) hgw _), Lib.hid ?_⟩
          rw [HT.out, inCnt_snoc, inCnt_snoc, HA.out, HBB.out, cells_set HGR.out]
          simp
        case measure => simp [intOf]; omega
      · have hxp : p = 1 := hxp
        subst hxp
        go_wp2_with fail
        go_roundw
        case rel =>
          refine ⟨j + 1, by omega, by go_num, Lib.hid (HBR.out.setCell (p := ⟨g, 1, none⟩) hgw _), Lib.hid ?_⟩
          rw [HT.out, inCnt_snoc, inCnt_snoc, HA.out, HBB.out, cells_set HGR.out]
          simp
        case measure => simp [intOf]; omega
    · have hjk : ¬ (j : Int) < (k : Int) := by omega
      go_wp2_with fail
      go_ret
      have : j = k := by omega
      subst this
      exact ⟨g, rfl, by rw [HGG.out]; exact Nat.le_refl _, HBR.out, HGR.out⟩

end Go.Proofs.Ytllecjhfbojgcaa

/-
  The reference's Add walked.
-/
namespace Go.Proofs.Ytllecjhfbojgcaa
open Go.RowKit
set_option maxRecDepth 20000

/-- Behind the append of a record, and the store of the row. -/
theorem rin_row {f : Fr} {w w3 : World} {m r l0 l1 g cap : Nat} {sv lv : Value} {S : InSt} {x : InR} (h : RInLive f w m r l0 l1 sv lv S)
    (h3 : Below w.heap.size w w3) (hown : w3.ownsRow w.heap.size 32 3 (.slice (some ⟨g, 0, none⟩) (S.rs.length + 1) cap) (S.rs.length + 1) (inCells S.rs ++ [.int .i64 x.part, .int .i64 x.key, .int .i64 x.val])) :
    RInLive f (w3.setCell ⟨m, 1, none⟩ (.slice (some ⟨g, 0, none⟩) (S.rs.length + 1) cap)) m r l0 l1 sv (.slice (some ⟨g, 0, none⟩) (S.rs.length + 1) cap) (S.row x) := by
  obtain ⟨F, G0, G1, N, h⟩ := h
  have hg : w.heap.size ≤ g ∧ g < w3.heap.size := by
    rcases hown.2 with ⟨h, -⟩ | ⟨g', cap', cur, hv, h2, h3, _⟩
    · cases h
    · simp only [Value.slice.injEq, Option.some.injEq, Addr.mk.injEq] at hv
      have := (Array.getElem?_eq_some_iff.1 h3).1
      omega
  have hmlt := h.lt m h.mem
  have hs3 := h3.size
  have hc3 := (h3.block m hmlt).trans h.cell
  have hset : ∀ k, k ≠ m → (w3.setCell ⟨m, 1, none⟩ (.slice (some ⟨g, 0, none⟩) (S.rs.length + 1) cap)).heap[k]? = w3.heap[k]? := fun k hk => Below.heap_setCell _ _ _ _ (by exact hk)
  have ho : Only N w (w3.setCell ⟨m, 1, none⟩ (.slice (some ⟨g, 0, none⟩) (S.rs.length + 1) cap)) := (Only.below h3).trans (Only.setCell _ _ ⟨m, 1, none⟩ _ h.mem)
  have hsm : sv.ownBlock ≠ some m := fun e => by
    rcases h.logs.2 with ⟨h0, -⟩ | ⟨g', cap', cur, hv, _, hcc, _⟩
    · rw [h0] at e; cases e
    · rw [hv] at e
      simp only [Value.ownBlock, Option.some.injEq] at e
      subst e
      rw [h.cell] at hcc
      simp only [Option.some.injEq, Obj.cells.injEq] at hcc
      exact absurd hcc.2.1 (by decide)
  have hgo : ∀ k, (N k ∨ k = g) → N k ∨ w.heap.size ≤ k := fun k hk => by
    rcases hk with hk | hk
    · exact .inl hk
    · exact .inr (by omega)
  refine ⟨F, G0, G1, fun k => N k ∨ k = g, h.old.only ho (fun i hi => h.new i (.inr (.inr (.inr hi)))), h.disk.only ho h.fn, h.log0.only ho h.g0n, h.log1.only ho h.g1n, ?_, ?_, ?_, .inl h.mem, fun b hb => ?_, fun k hk => ?_, h.f0, h.f1, dis_new' hgo h.fn h.disk.lt, h.g01, dis_new' hgo h.g0n h.log0.lt, dis_new' hgo h.g1n h.log1.lt, fun k hk => ?_⟩
  · rw [cells_set hc3]
    rfl
  · exact own_kept h.logs (fun b hb => by
      have hbm : b ≠ m := fun e => hsm (e ▸ hb)
      exact (hset b hbm).trans (h3.block b (h.lt b (h.own b (.inl hb)))))
  · show World.ownsRow _ 0 _ 3 _ (S.rs ++ [x]).length (inCells (S.rs ++ [x]))
    rw [List.length_append, inCells_snoc]
    obtain ⟨o1, o2⟩ := own_kept hown (w' := w3.setCell ⟨m, 1, none⟩ (.slice (some ⟨g, 0, none⟩) (S.rs.length + 1) cap)) (fun b hb => by
      simp only [Value.ownBlock, Option.some.injEq] at hb
      subst hb
      exact hset _ (by omega))
    refine ⟨o1, ?_⟩
    rcases o2 with o2 | ⟨g', cap', cur, hv, h2, h3⟩
    · exact .inl o2
    · exact .inr ⟨g', cap', cur, hv, Nat.zero_le _, h3⟩
  · rcases hb with hb | hb
    · exact .inl (h.own b (.inl hb))
    · simp only [Value.ownBlock, Option.some.injEq] at hb
      exact .inr hb.symm
  · simp only [World.size_setCell]
    rcases hk with hk | hk
    · have := h.lt k hk; omega
    · omega
  · rcases hk with hk | hk | hk | hk
    · exact h.new k (.inl hk)
    · exact h.new k (.inr (.inl hk))
    · exact h.new k (.inr (.inr (.inl hk)))
    · rcases hgo k hk with e | e
      · exact h.new k (.inr (.inr (.inr e)))
      · exact h.old.fresh e

theorem inCells_one (rs : List InR) : ∀ u ∈ inCells rs, u.oneCell' = true := by
  intro u hu
  obtain ⟨r, -, hr⟩ := List.mem_flatMap.1 hu
  simp only [List.mem_cons, List.not_mem_nil, or_false] at hr
  rcases hr with rfl | rfl | rfl <;> simp [Value.oneCell']

set_option maxHeartbeats 4000000 in
theorem rinadd_arg {f : Fr} {w : World} {m r l0 l1 : Nat} {sv lv : Value} {S : InSt} (h : RInLive f w m r l0 l1 sv lv S) (x : InR) (hx : x.part < 0 ∨ 2 ≤ x.part) :
    Calls Try.prog 29 #[ptr m 0, x.val'] w fun e w' => e = .returned (.int .i64 (S.add x).1) ∧ RInLive f w' m r l0 l1 sv lv (S.add x).2 := by
  have ha : S.add x = (2, S) := if_pos hx
  rw [ha]
  obtain ⟨p, k, v⟩ := x
  have HL := Lib.hid (h.below (bel_alloc w (.cells #[.int .i64 p, .int .i64 k, .int .i64 v] 32)))
  clear h ha
  unfold ptr InR.val'
  show Calls _ _ #[_, .agg #[.int .i64 p, .int .i64 k, .int .i64 v]] _ _
  rcases hx with hx | hx
  · have hx : p < 0 := hx
    have hd : decide (p < 0) = true := by simpa using hx
    go_enter Try.func29, Try.ntmps29
    go_wp2_with fail
    go_ret
    exact ⟨rfl, HL.out⟩
  · have hx : 2 ≤ p := hx
    have hd : decide (p < 0) = false := by simp; omega
    have hd2 : decide (1 < p) = true := by simp; omega
    clear hx
    go_enter Try.func29, Try.ntmps29
    go_wp2_with fail
    go_ret
    exact ⟨rfl, HL.out⟩

set_option maxHeartbeats 4000000 in
theorem rinadd_full {f : Fr} {w : World} {m r l0 l1 : Nat} {sv lv : Value} {S : InSt} (h : RInLive f w m r l0 l1 sv lv S) (x : InR) (hx : ¬ (x.part < 0 ∨ 2 ≤ x.part)) (hn : 500 ≤ S.rs.length) :
    Calls Try.prog 29 #[ptr m 0, x.val'] w fun e w' => e = .returned (.int .i64 (S.add x).1) ∧ RInLive f w' m r l0 l1 sv lv (S.add x).2 := by
  have ha : S.add x = (7, S) := by unfold InSt.add; rw [if_neg hx, if_pos hn]
  rw [ha]
  obtain ⟨p, k, v⟩ := x
  have HL := Lib.hid (h.below (bel_alloc w (.cells #[.int .i64 p, .int .i64 k, .int .i64 v] 32)))
  obtain ⟨hc, hr, -⟩ := h.cells
  obtain ⟨la, lc, rfl⟩ := (Reads.own hr).shape
  have hlen := (Reads.own hr).lenLe
  unfold maxLen at hlen
  have c1 := cells_at hc 1 _ rfl
  have hmw := (Array.getElem?_eq_some_iff.1 hc).1
  have hx : ¬ (p < 0 ∨ 2 ≤ p) := hx
  have hd : decide (p < 0) = false := by simp; omega
  have hd2 : decide (1 < p) = false := by simp; omega
  obtain ⟨q, hq⟩ : ∃ q, S.rs.length = q := ⟨_, rfl⟩
  rw [hq] at c1 hn hlen
  have hd3 : decide ((500 : Int) ≤ (q : Int)) = true := by simp; omega
  simp only [List.getElem_toArray, List.getElem_cons_zero, List.getElem_cons_succ] at c1
  clear h ha hx hc hr hq hn
  unfold ptr InR.val'
  show Calls _ _ #[_, .agg #[.int .i64 p, .int .i64 k, .int .i64 v]] _ _
  go_enter Try.func29, Try.ntmps29
  go_wp2_with fail
  go_ret
  exact ⟨rfl, HL.out⟩

set_option maxHeartbeats 8000000 in
set_option maxRecDepth 100000 in
theorem rinadd_good {f : Fr} {w : World} {m r l0 l1 : Nat} {sv lv : Value} {S : InSt} (h : RInLive f w m r l0 l1 sv lv S) (p : Nat) (hp : p < 2) (k v : Int) (hk : Cl.In64 k) (hv : Cl.In64 v) (hn : S.rs.length < 500) (hm : S.D.loose.length ≤ 1000000000) (h0 : S.L0.rs.length ≤ 900000000) (h1 : S.L1.rs.length ≤ 900000000) :
    Calls Try.prog 29 #[ptr m 0, InR.val' ⟨(p : Int), k, v⟩] w fun e w' => ∃ lv', e = .returned (.int .i64 (S.add ⟨(p : Int), k, v⟩).1) ∧ RInLive f w' m r l0 l1 sv lv' (S.add ⟨(p : Int), k, v⟩).2 := by
  have ha := add_is S p hp k v hn
  obtain ⟨A, hA⟩ : ∃ A, S.add ⟨(p : Int), k, v⟩ = A := ⟨_, rfl⟩
  rw [hA] at ha ⊢
  have hTr : (S.putp p (S.ent ⟨(p : Int), k, v⟩)).2.rs = S.rs := by unfold InSt.putp; split <;> rfl
  have hes := ent_size S ⟨(p : Int), k, v⟩
  obtain ⟨W, hW⟩ : ∃ W, w.alloc (.cells #[.int .i64 (p : Int), .int .i64 k, .int .i64 v] 32) = W := ⟨_, rfl⟩
  have hb : Below w.heap.size w W := by rw [← hW]; exact bel_alloc _ _
  have hWs : W.heap.size = w.heap.size + 1 := by rw [← hW]; simp
  obtain ⟨f', hLW, hback⟩ := ((h.keep.grow hb).less (K' := fun k => k = w.heap.size) (fun k hk => .inr (by rw [show k = w.heap.size from hk]; omega))).call
  have hpl := fun (X : World) (hX : RInLive f' X m r l0 l1 sv lv S) => rin_put hX p hp (S.ent ⟨(p : Int), k, v⟩) (by show (1 : UInt8).toNat ≠ 0; decide) (by omega) hm h0 h1
  obtain ⟨E, T, hET⟩ : ∃ E T, S.putp p (S.ent ⟨(p : Int), k, v⟩) = (E, T) := ⟨_, _, rfl⟩
  rw [hET] at ha hTr hpl
  simp only at ha hTr hpl
  have hbox : W.heap[w.heap.size]? = some (.cells #[.int .i64 (p : Int), .int .i64 k, .int .i64 v] 32) := by rw [← hW]; exact heap_alloc_new w _
  obtain ⟨hc, hr, sb, sc, rfl, hsb, hlogs⟩ := hLW.cells
  have hcw := h.cells.1
  obtain ⟨la, lc, rfl⟩ := (Reads.own hr).shape
  have hlp := hlogs p hp
  obtain ⟨q, hq⟩ : ∃ q, S.rs.length = q := ⟨_, rfl⟩
  have hent : S.ent ⟨(p : Int), k, v⟩ = ⟨1, ⟨(Cl.put [(q : Int), k, v]).toArray⟩⟩ := by unfold InSt.ent; rw [hq]
  rw [hent] at hpl
  have hk1 : (((1 : UInt8).toNat : Nat) : Int) = 1 := by decide
  simp only [hk1] at hpl
  obtain ⟨lp, hlpp⟩ : ∃ lp, lpOf l0 l1 p = lp := ⟨_, rfl⟩
  rw [hlpp] at hpl hlp
  unfold ptr at hpl hlp
  rw [hq] at hn hc hcw
  have cw := cells_at hcw 1 _ rfl
  have hmw := (Array.getElem?_eq_some_iff.1 hcw).1
  have b0 := cells_at hbox 0 _ rfl
  have b1 := cells_at hbox 1 _ rfl
  have b2 := cells_at hbox 2 _ rfl
  have c0 := cells_at hc 0 _ rfl
  have c1 := cells_at hc 1 _ rfl
  simp only [List.getElem_toArray, List.getElem_cons_zero, List.getElem_cons_succ] at b0 b1 b2 c0 c1 cw
  have hd : decide ((p : Int) < 0) = false := by simp
  have hd2 : decide ((1 : Int) < (p : Int)) = false := by simp; omega
  have hd3 : decide ((500 : Int) ≤ (q : Int)) = false := by simp; omega
  have hp2 : (p : Int) < 2 := by omega
  have hmlt := (Array.getElem?_eq_some_iff.1 hc).1
  have hblt := (Array.getElem?_eq_some_iff.1 hbox).1
  have HIN := Lib.hid (show ∀ n ∈ [(q : Int), k, v], Cl.In64 n from by
    intro n hn'
    simp only [List.mem_cons, List.not_mem_nil, or_false] at hn'
    rcases hn' with rfl | rfl | rfl
    · unfold Cl.In64; omega
    · exact hk
    · exact hv)
  have HSY := Lib.hid (fun (X : World) (lv' : Value) (S' : InSt) (hX : RInLive f' X m r l0 l1 (.slice (some ⟨sb, 0, none⟩) 2 sc) lv' S') => rin_sync hX p hp)
  have HPL := Lib.hid hpl
  have HTR := Lib.hid hTr
  have HW := Lib.hid hW
  have HL := Lib.hid hLW
  have HQ := Lib.hid hq
  have HA := Lib.hid ha
  have HLPP := Lib.hid hlpp
  have HBOX := Lib.hid hbox
  obtain ⟨bx, hbx⟩ : ∃ b, w.heap.size = b := ⟨_, rfl⟩
  rw [hbx] at b0 b1 b2 hblt HBOX hback hmw
  have HBACK := Lib.hid hback
  have HBX := Lib.hid hbx
  have HC := Lib.hid (fun (W' : World) (hb : Below W.heap.size W W') => And.intro ((hb.cell (p := ⟨m, 0, none⟩) hmlt).trans c0) (And.intro ((hb.cell (p := ⟨m, 1, none⟩) hmlt).trans c1) (And.intro ((hb.cell (p := ⟨sb, p, none⟩) hsb).trans hlp) (And.intro ((hb.cell (p := ⟨bx, 0, none⟩) hblt).trans b0) (And.intro ((hb.cell (p := ⟨bx, 1, none⟩) hblt).trans b1) ((hb.cell (p := ⟨bx, 2, none⟩) hblt).trans b2))))))
  obtain ⟨i0, hi0, hz0, hz1, hz2⟩ := info_parts infoIn
  clear h hW hb hWs hLW hback hc hcw hr hbox hm h0 h1 hk hv hpl hlp hET hTr hq ha hlpp hent hes hk1 hlogs hA
  unfold ptr InR.val'
  show Calls _ _ #[_, .agg #[.int .i64 (p : Int), .int .i64 k, .int .i64 v]] _ _
  go_enter Try.func29, Try.ntmps29
  go_upto_region 5 with fail
  rw [HW.out]
  clear hbx cw
  refine wp_region_free [0, 1, 2, 3, 4, 5, 6, 7, 8, 9, 10, 11, 12, 13, 14, 15, 16] 19 (fun W' => Below W.heap.size W W') (by kernel_rfl) (by kernel_rfl) ?_
  change wpYields _ _ _ _ [_, _, _, _, _, _, _, _, _, _, _, _, _, _, _, _, _] _
  iterate 17 (refine yields_step (fun K hK => ?_); apply Exists.intro; apply And.intro; (apply yields_at rfl; rintro W' hb; obtain ⟨e0, e1, e2, e3, e4, e5⟩ := HC.out W' hb; go_simp; first | done | rfl); go_simp; refine hK _ ?_; clear hK K)
  refine yields_nil ?_
  obtain ⟨V, hV⟩ : ∃ V, W.drew = V := ⟨_, rfl⟩
  have hbV : Below W.heap.size W V := by rw [← hV]; exact bel_drew W
  rw [hV]
  refine anyP_one (k := 17) (by kernel_rfl) (by decide) rfl rfl hbV ?_
  refine wpP_step rfl (fun K hK => ?_)
  go_simp
  refine hK _ _ ?_
  clear hK K
  have hnw := heap_alloc_new V (.cells #[.int .i64 (q : Int), .int .i64 k, .int .i64 v] 2)
  have hbV1 := bel_trans hbV (bel_alloc V (.cells #[.int .i64 (q : Int), .int .i64 k, .int .i64 v] 2))
  have hs1 : V.heap.size < (V.alloc (.cells #[.int .i64 (q : Int), .int .i64 k, .int .i64 v] 2)).heap.size := by simp
  obtain ⟨V1, hV1⟩ : ∃ Y, V.alloc (.cells #[.int .i64 (q : Int), .int .i64 k, .int .i64 v] 2) = Y := ⟨_, rfl⟩
  rw [hV1] at hnw hbV1 hs1 ⊢
  refine anyP_one (k := 18) (by kernel_rfl) (by decide) rfl rfl hbV1 ?_
  refine wpP_step rfl (fun K hK => ?_)
  go_simp
  go_at_call 67
  refine (refput_any (.slice (some ⟨V.heap.size, 0, none⟩) 3 3) [(q : Int), k, v] V1 (.inr ⟨V.heap.size, 0, 3, rfl, Nat.le_refl _, by unfold maxLen; simp, hs1, fun i c hi => by rw [Nat.zero_add]; exact cells_at hnw i c (by simpa [ints] using hi)⟩) (by simp) HIN.out).mono ?_
  rintro e V2 ⟨rfl, hb2⟩
  refine hK _ _ ?_
  clear hK K
  have hbV2 := bel_trans hbV1 hb2
  refine anyP_leaf hbV2 (by kernel_rfl) ?_
  simp only [List.drop_succ_cons, List.drop_zero]
  have HLV := Lib.hid (HL.out.below hbV2)
  clear hnw hbV1 hs1 hV1 hV hbV hb2 hbV2 c0 c1 b0 b1 b2
  go_wp2_with fail
  refine (HPL.out V2 HLV.out).mono ?_
  rintro e w2 ⟨rfl, hL2⟩
  by_cases he : E = 0
  rotate_left
  · have hz : (E != 0) = true := by simpa using he
    have HE := Lib.hid he
    have HL2 := Lib.hid hL2
    clear he hL2
    go_wp2_with fail
    go_ret
    have hr := HA.out
    rw [if_pos HE.out] at hr
    exact ⟨_, by rw [hr]; rfl, by rw [hr]; exact (HBACK.out _ _ _ _ _ _ _ HL2.out).1.live⟩
  subst he
  have hA0 := HA.out
  rw [if_neg (by simp)] at hA0
  have HA0 := Lib.hid hA0
  -- the box, behind the calls
  have hbox2 := ((HBACK.out _ _ _ _ _ _ _ hL2).2.1 bx rfl).trans HBOX.out
  obtain ⟨hc2, hr2, sb2, sc2, hsv2, hsb2, hlogs2⟩ := hL2.cells
  simp only [Value.slice.injEq, Option.some.injEq, Addr.mk.injEq, and_true, true_and] at hsv2
  obtain ⟨rfl, rfl⟩ := hsv2
  have hrr2 := Reads.own hr2
  have hTq : T.rs.length = q := by rw [HTR.out]; exact HQ.out
  rw [hTq, HQ.out] at hrr2
  have hn500 : q < 500 := hn
  have b0 := cells_at hbox2 0 _ rfl
  have b1 := cells_at hbox2 1 _ rfl
  have b2 := cells_at hbox2 2 _ rfl
  have c1 := cells_at hc2 1 _ rfl
  have f1 := cells_free hc2 1
  simp only [List.getElem_toArray, List.getElem_cons_zero, List.getElem_cons_succ] at b0 b1 b2 c1
  rw [HQ.out] at c1
  have hmlt2 := (Array.getElem?_eq_some_iff.1 hc2).1
  have hblt2 := (Array.getElem?_eq_some_iff.1 hbox2).1
  obtain ⟨Y, hY⟩ : ∃ Y, w2 = Y := ⟨_, rfl⟩
  have HL2 := Lib.hid hL2
  have HRR2 := Lib.hid hrr2
  have HTQ := Lib.hid hTq
  have HC2 := Lib.hid (fun (W' : World) (hb : Below w2.heap.size w2 W') => And.intro ((hb.cell (p := ⟨m, 1, none⟩) hmlt2).trans c1) (And.intro ((hb.cell (p := ⟨bx, 0, none⟩) hblt2).trans b0) (And.intro ((hb.cell (p := ⟨bx, 1, none⟩) hblt2).trans b1) ((hb.cell (p := ⟨bx, 2, none⟩) hblt2).trans b2))))
  have HF2 := Lib.hid (fun (W' : World) (hb : Below w2.heap.size w2 W') => (World.frozen?_of_block (hb.block m hmlt2)).trans f1)
  -- what is left behind the row's store
  have hend : ∀ (V9 : World) (g9 c9 : Nat), Below w2.heap.size w2 V9 → V9.ownsRow w2.heap.size 32 3 (.slice (some ⟨g9, 0, none⟩) (q + 1) c9) (q + 1) (inCells S.rs ++ [.int .i64 (p : Int), .int .i64 k, .int .i64 v]) →
      RInLive f' (V9.setCell ⟨m, 1, none⟩ (.slice (some ⟨g9, 0, none⟩) (q + 1) c9)) m r l0 l1 (.slice (some ⟨sb, 0, none⟩) 2 sc) (.slice (some ⟨g9, 0, none⟩) (q + 1) c9) (T.row ⟨(p : Int), k, v⟩) := fun V9 g9 c9 hb9 hown9 => by
    have h1 := rin_row (x := ⟨(p : Int), k, v⟩) (g := g9) (cap := c9) HL2.out hb9 (by rw [hTq, HTR.out]; exact hown9)
    rw [hTq] at h1
    exact h1
  have HEND := Lib.hid hend
  clear hc2 hr2 hbox2 hrr2 hTq hlogs2 hL2 hend hA0 b0 b1 b2 c1 f1 hY
  go_upto_region 8 with fail
  refine wp_region_free [0, 2, 3, 4, 5, 7] 10 (fun W' => Below w2.heap.size w2 W') (by kernel_rfl) (by kernel_rfl) ?_
  change wpYields _ _ _ _ [_, _, _, _, _, _] _
  iterate 6 (refine yields_step (fun K hK => ?_); apply Exists.intro; apply And.intro; (apply yields_at rfl; rintro W' hb; obtain ⟨e1, e3, e4, e5⟩ := HC2.out W' hb; go_simp; first | done | rfl); go_simp; refine hK _ ?_; clear hK K)
  refine yields_nil ?_
  obtain ⟨V, hV⟩ : ∃ V, w2.drew = V := ⟨_, rfl⟩
  have hbV : Below w2.heap.size w2 V := by rw [← hV]; exact bel_drew w2
  rw [hV]
  have hone3 : ∀ u ∈ [Value.int .i64 (p : Int), .int .i64 k, .int .i64 v], u.oneCell' = true := by simp [Value.oneCell']
  refine anyP_two (k := 1) (k' := 8) (by kernel_rfl) (by decide) (by decide) rfl rfl rfl rfl hbV ?_ ?_
  · refine wpP_step rfl (fun K hK => ?_)
    go_simp
    refine hK _ _ ?_
    clear hK K
    have hown0 := own_lit2 V #[] 32 V.heap.size 0 3 w2.heap.size rfl rfl (by decide) hbV.size
    have hbV1 := bel_trans hbV (bel_alloc V (.cells #[] 32))
    have hs0 : V.heap.size < (V.alloc (.cells #[] 32)).heap.size := by simp
    obtain ⟨V1, hV1⟩ : ∃ Y, V.alloc (.cells #[] 32) = Y := ⟨_, rfl⟩
    rw [hV1] at hown0 hbV1 hs0 ⊢
    refine anyP_two (k := 6) (k' := 8) (by kernel_rfl) (by decide) (by decide) rfl rfl rfl rfl hbV1 ?_ ?_
    · refine wp_append_reads V1 (.tmp 44) (.tmp 48) 39 rfl w2.heap.size 32 i0 _ 3 24 Try.underlying39 hi0 hz0 hz1 hz2 rfl (by omega) V.heap.size 0 0 [] (by rfl) hown0 (.slice la q lc) q (inCells S.rs) (by rfl) (by have := HRR2.out.below hbV1; rw [HTR.out] at this; exact this) (by rw [inCells_len, HQ.out]) (inCells_one _) (by unfold maxLen; omega) (by omega) hbV1.size ?_
      intro g6 c6 V6 hown6 hgr6 hat6
      rw [Nat.zero_add, List.nil_append] at hown6
      have hbV6 := grown_bel hbV1 hown0 hgr6
      refine anyP_one (k := 8) (by kernel_rfl) (by decide) rfl rfl hbV6 ?_
      refine wpP_step rfl (fun K hK => ?_)
      go_simp
      refine hK _ _ ?_
      clear hK K
      have hnew := own_lit2 V6 #[.int .i64 (p : Int), .int .i64 k, .int .i64 v] 32 V6.heap.size 1 3 0 rfl rfl (by decide) (Nat.zero_le _)
      have hAV8 := bel_alloc V6 (.cells #[.int .i64 (p : Int), .int .i64 k, .int .i64 v] 32)
      have hbV8 := bel_trans hbV6 hAV8
      have hs8 : V6.heap.size < (V6.alloc (.cells #[.int .i64 (p : Int), .int .i64 k, .int .i64 v] 32)).heap.size := by simp
      obtain ⟨V8, hV8⟩ : ∃ Y, V6.alloc (.cells #[.int .i64 (p : Int), .int .i64 k, .int .i64 v] 32) = Y := ⟨_, rfl⟩
      rw [hV8] at hnew hAV8 hbV8 hs8 ⊢
      have hown6 := own_far hown6 hAV8
      refine anyP_one (k := 9) (by kernel_rfl) (by decide) rfl rfl hbV8 ?_
      refine wp_append_reads V8 (.tmp 49) (.tmp 51) 39 rfl w2.heap.size 32 i0 _ 3 24 Try.underlying39 hi0 hz0 hz1 hz2 rfl (by omega) g6 q c6 (inCells S.rs) (by simp [Act.eval]) hown6 (.slice (some ⟨V6.heap.size, 0, none⟩) 1 1) 1 [.int .i64 (p : Int), .int .i64 k, .int .i64 v] (by simp [Act.eval]) (Reads.own hnew) rfl hone3 (by unfold maxLen; omega) (by omega) hbV8.size ?_
      intro g9 c9 V9 hown9 hgr9 hat9
      have hb9 := grown_bel hbV8 hown6 hgr9
      refine anyP_leaf hb9 (by kernel_rfl) ?_
      simp only [List.drop_succ_cons, List.drop_zero]
      clear hnew hAV8 hbV8 hs8 hV8 hown6 hbV6 hgr6 hat6 hgr9 hat9 hown0 hbV1 hs0 hV1 hbV hV
      have HE9 := Lib.hid (HEND.out V9 g9 c9 hb9 hown9)
      obtain ⟨e1, -⟩ := HC2.out V9 hb9
      have ef := HF2.out V9 hb9
      clear hown9 hb9
      go_upto_region 9 with fail
      clear e1 ef
      obtain ⟨hc4, hr4, sb4, sc4, hsv4, hsb4, hlogs4⟩ := HE9.out.cells
      simp only [Value.slice.injEq, Option.some.injEq, Addr.mk.injEq, and_true, true_and] at hsv4
      obtain ⟨rfl, rfl⟩ := hsv4
      have hlp4 := hlogs4 p hp
      rw [HLPP.out] at hlp4
      unfold ptr at hlp4
      have hbox4 := ((HBACK.out _ _ _ _ _ _ _ HE9.out).2.1 bx rfl).trans HBOX.out
      have a0 := cells_at hc4 0 _ rfl
      have x0 := cells_at hbox4 0 _ rfl
      simp only [List.getElem_toArray, List.getElem_cons_zero] at a0 x0
      clear hc4 hr4 hlogs4 hbox4
      obtain ⟨Z, hZ⟩ : ∃ Z, V9.setCell ⟨m, 1, none⟩ (.slice (some ⟨g9, 0, none⟩) (q + 1) c9) = Z := ⟨_, rfl⟩
      rw [hZ] at HE9 a0 x0 hlp4 hsb4 ⊢
      clear hZ
      refine wp_region_still_tail 8 (by kernel_rfl) (by kernel_rfl) ?_
      simp only [List.take_succ_cons, List.take_zero, List.drop_succ_cons, List.drop_zero]
      change wpStill _ _ Z.drew (fun a' => wpList _ _ _ _ a' Z.drew) _ _
      repeat still_step
      refine wpStill_nil ?_
      have hs9 := HSY.out Z.drew _ _ (HE9.out.below (bel_drew Z))
      rw [HLPP.out] at hs9
      unfold ptr at hs9
      clear a0 x0 hlp4
      go_wp2_with fail
      refine hs9.mono ?_
      rintro e w5 ⟨rfl, hL5⟩
      go_wp2_with fail
      go_ret
      exact ⟨_, by rw [HA0.out]; rfl, by rw [HA0.out]; exact (HBACK.out _ _ _ _ _ _ _ hL5).1.live⟩
    · refine wpP_step rfl (fun K hK => ?_)
      go_simp
      refine hK _ _ ?_
      clear hK K
      have hnew := own_lit2 V1 #[.int .i64 (p : Int), .int .i64 k, .int .i64 v] 32 V1.heap.size 1 3 0 rfl rfl (by decide) (Nat.zero_le _)
      have hAV8 := bel_alloc V1 (.cells #[.int .i64 (p : Int), .int .i64 k, .int .i64 v] 32)
      have hbV8 := bel_trans hbV1 hAV8
      have hs8 : V1.heap.size < (V1.alloc (.cells #[.int .i64 (p : Int), .int .i64 k, .int .i64 v] 32)).heap.size := by simp
      obtain ⟨V8, hV8⟩ : ∃ Y, V1.alloc (.cells #[.int .i64 (p : Int), .int .i64 k, .int .i64 v] 32) = Y := ⟨_, rfl⟩
      rw [hV8] at hnew hAV8 hbV8 hs8 ⊢
      have hown0 := own_far hown0 hAV8
      refine anyP_one (k := 6) (by kernel_rfl) (by decide) rfl rfl hbV8 ?_
      refine wp_append_reads V8 (.tmp 44) (.tmp 48) 39 rfl w2.heap.size 32 i0 _ 3 24 Try.underlying39 hi0 hz0 hz1 hz2 rfl (by omega) V.heap.size 0 0 [] (by rfl) hown0 (.slice la q lc) q (inCells S.rs) (by rfl) (by have := HRR2.out.below hbV8; rw [HTR.out] at this; exact this) (by rw [inCells_len, HQ.out]) (inCells_one _) (by unfold maxLen; omega) (by omega) hbV8.size ?_
      intro g6 c6 V6 hown6 hgr6 hat6
      rw [Nat.zero_add, List.nil_append] at hown6
      have hbV6 := grown_bel hbV8 hown0 hgr6
      have hnew := own_kept hnew (w' := V6) (fun g hg => by simp only [Value.ownBlock, Option.some.injEq] at hg; subst hg; exact hgr6.block _ hs8 (fun e => by simp only [Option.some.injEq] at e; omega))
      refine anyP_one (k := 9) (by kernel_rfl) (by decide) rfl rfl hbV6 ?_
      refine wp_append_reads V6 (.tmp 49) (.tmp 51) 39 rfl w2.heap.size 32 i0 _ 3 24 Try.underlying39 hi0 hz0 hz1 hz2 rfl (by omega) g6 q c6 (inCells S.rs) (by simp [Act.eval, Act.put]) hown6 (.slice (some ⟨V1.heap.size, 0, none⟩) 1 1) 1 [.int .i64 (p : Int), .int .i64 k, .int .i64 v] (by simp [Act.eval, Act.put]) (Reads.own hnew) rfl hone3 (by unfold maxLen; omega) (by omega) hbV6.size ?_
      intro g9 c9 V9 hown9 hgr9 hat9
      have hb9 := grown_bel hbV6 hown6 hgr9
      refine anyP_leaf hb9 (by kernel_rfl) ?_
      simp only [List.drop_succ_cons, List.drop_zero]
      clear hnew hAV8 hbV8 hs8 hV8 hown6 hbV6 hgr6 hat6 hgr9 hat9 hown0 hbV1 hs0 hV1 hbV hV
      have HE9 := Lib.hid (HEND.out V9 g9 c9 hb9 hown9)
      obtain ⟨e1, -⟩ := HC2.out V9 hb9
      have ef := HF2.out V9 hb9
      clear hown9 hb9
      go_upto_region 9 with fail
      clear e1 ef
      obtain ⟨hc4, hr4, sb4, sc4, hsv4, hsb4, hlogs4⟩ := HE9.out.cells
      simp only [Value.slice.injEq, Option.some.injEq, Addr.mk.injEq, and_true, true_and] at hsv4
      obtain ⟨rfl, rfl⟩ := hsv4
      have hlp4 := hlogs4 p hp
      rw [HLPP.out] at hlp4
      unfold ptr at hlp4
      have hbox4 := ((HBACK.out _ _ _ _ _ _ _ HE9.out).2.1 bx rfl).trans HBOX.out
      have a0 := cells_at hc4 0 _ rfl
      have x0 := cells_at hbox4 0 _ rfl
      simp only [List.getElem_toArray, List.getElem_cons_zero] at a0 x0
      clear hc4 hr4 hlogs4 hbox4
      obtain ⟨Z, hZ⟩ : ∃ Z, V9.setCell ⟨m, 1, none⟩ (.slice (some ⟨g9, 0, none⟩) (q + 1) c9) = Z := ⟨_, rfl⟩
      rw [hZ] at HE9 a0 x0 hlp4 hsb4 ⊢
      clear hZ
      refine wp_region_still_tail 8 (by kernel_rfl) (by kernel_rfl) ?_
      simp only [List.take_succ_cons, List.take_zero, List.drop_succ_cons, List.drop_zero]
      change wpStill _ _ Z.drew (fun a' => wpList _ _ _ _ a' Z.drew) _ _
      repeat still_step
      refine wpStill_nil ?_
      have hs9 := HSY.out Z.drew _ _ (HE9.out.below (bel_drew Z))
      rw [HLPP.out] at hs9
      unfold ptr at hs9
      clear a0 x0 hlp4
      go_wp2_with fail
      refine hs9.mono ?_
      rintro e w5 ⟨rfl, hL5⟩
      go_wp2_with fail
      go_ret
      exact ⟨_, by rw [HA0.out]; rfl, by rw [HA0.out]; exact (HBACK.out _ _ _ _ _ _ _ hL5).1.live⟩
  · refine wpP_step rfl (fun K hK => ?_)
    go_simp
    refine hK _ _ ?_
    clear hK K
    have hnew := own_lit2 V #[.int .i64 (p : Int), .int .i64 k, .int .i64 v] 32 V.heap.size 1 3 0 rfl rfl (by decide) (Nat.zero_le _)
    have hAV8 := bel_alloc V (.cells #[.int .i64 (p : Int), .int .i64 k, .int .i64 v] 32)
    have hbV8 := bel_trans hbV hAV8
    have hs8 : V.heap.size < (V.alloc (.cells #[.int .i64 (p : Int), .int .i64 k, .int .i64 v] 32)).heap.size := by simp
    obtain ⟨V8, hV8⟩ : ∃ Y, V.alloc (.cells #[.int .i64 (p : Int), .int .i64 k, .int .i64 v] 32) = Y := ⟨_, rfl⟩
    rw [hV8] at hnew hAV8 hbV8 hs8 ⊢
    refine anyP_one (k := 1) (by kernel_rfl) (by decide) rfl rfl hbV8 ?_
    refine wpP_step rfl (fun K hK => ?_)
    go_simp
    refine hK _ _ ?_
    clear hK K
    have hown0 := own_lit2 V8 #[] 32 V8.heap.size 0 3 w2.heap.size rfl rfl (by decide) hbV8.size
    have hbV1 := bel_trans hbV8 (bel_alloc V8 (.cells #[] 32))
    have hs0 : V8.heap.size < (V8.alloc (.cells #[] 32)).heap.size := by simp
    obtain ⟨V1, hV1⟩ : ∃ Y, V8.alloc (.cells #[] 32) = Y := ⟨_, rfl⟩
    rw [hV1] at hown0 hbV1 hs0 ⊢
    have hnew := own_far hnew (w' := V1) (by rw [← hV1]; exact bel_alloc _ _)
    refine anyP_one (k := 6) (by kernel_rfl) (by decide) rfl rfl hbV1 ?_
    refine wp_append_reads V1 (.tmp 44) (.tmp 48) 39 rfl w2.heap.size 32 i0 _ 3 24 Try.underlying39 hi0 hz0 hz1 hz2 rfl (by omega) V8.heap.size 0 0 [] (by rfl) hown0 (.slice la q lc) q (inCells S.rs) (by rfl) (by have := HRR2.out.below hbV1; rw [HTR.out] at this; exact this) (by rw [inCells_len, HQ.out]) (inCells_one _) (by unfold maxLen; omega) (by omega) hbV1.size ?_
    intro g6 c6 V6 hown6 hgr6 hat6
    rw [Nat.zero_add, List.nil_append] at hown6
    have hbV6 := grown_bel hbV1 hown0 hgr6
    have hnew := own_kept hnew (w' := V6) (fun g hg => by simp only [Value.ownBlock, Option.some.injEq] at hg; subst hg; exact hgr6.block _ (by omega) (fun e => by simp only [Option.some.injEq] at e; omega))
    refine anyP_one (k := 9) (by kernel_rfl) (by decide) rfl rfl hbV6 ?_
    refine wp_append_reads V6 (.tmp 49) (.tmp 51) 39 rfl w2.heap.size 32 i0 _ 3 24 Try.underlying39 hi0 hz0 hz1 hz2 rfl (by omega) g6 q c6 (inCells S.rs) (by simp [Act.eval, Act.put]) hown6 (.slice (some ⟨V.heap.size, 0, none⟩) 1 1) 1 [.int .i64 (p : Int), .int .i64 k, .int .i64 v] (by simp [Act.eval, Act.put]) (Reads.own hnew) rfl hone3 (by unfold maxLen; omega) (by omega) hbV6.size ?_
    intro g9 c9 V9 hown9 hgr9 hat9
    have hb9 := grown_bel hbV6 hown6 hgr9
    refine anyP_leaf hb9 (by kernel_rfl) ?_
    simp only [List.drop_succ_cons, List.drop_zero]
    clear hnew hAV8 hbV8 hs8 hV8 hown6 hbV6 hgr6 hat6 hgr9 hat9 hown0 hbV1 hs0 hV1 hbV
    have HE9 := Lib.hid (HEND.out V9 g9 c9 hb9 hown9)
    obtain ⟨e1, -⟩ := HC2.out V9 hb9
    have ef := HF2.out V9 hb9
    clear hown9 hb9
    go_upto_region 9 with fail
    clear e1 ef
    obtain ⟨hc4, hr4, sb4, sc4, hsv4, hsb4, hlogs4⟩ := HE9.out.cells
    simp only [Value.slice.injEq, Option.some.injEq, Addr.mk.injEq, and_true, true_and] at hsv4
    obtain ⟨rfl, rfl⟩ := hsv4
    have hlp4 := hlogs4 p hp
    rw [HLPP.out] at hlp4
    unfold ptr at hlp4
    have hbox4 := ((HBACK.out _ _ _ _ _ _ _ HE9.out).2.1 bx rfl).trans HBOX.out
    have a0 := cells_at hc4 0 _ rfl
    have x0 := cells_at hbox4 0 _ rfl
    simp only [List.getElem_toArray, List.getElem_cons_zero] at a0 x0
    clear hc4 hr4 hlogs4 hbox4
    obtain ⟨Z, hZ⟩ : ∃ Z, V9.setCell ⟨m, 1, none⟩ (.slice (some ⟨g9, 0, none⟩) (q + 1) c9) = Z := ⟨_, rfl⟩
    rw [hZ] at HE9 a0 x0 hlp4 hsb4 ⊢
    clear hZ
    refine wp_region_still_tail 8 (by kernel_rfl) (by kernel_rfl) ?_
    simp only [List.take_succ_cons, List.take_zero, List.drop_succ_cons, List.drop_zero]
    change wpStill _ _ Z.drew (fun a' => wpList _ _ _ _ a' Z.drew) _ _
    repeat still_step
    refine wpStill_nil ?_
    have hs9 := HSY.out Z.drew _ _ (HE9.out.below (bel_drew Z))
    rw [HLPP.out] at hs9
    unfold ptr at hs9
    clear a0 x0 hlp4
    go_wp2_with fail
    refine hs9.mono ?_
    rintro e w5 ⟨rfl, hL5⟩
    go_wp2_with fail
    go_ret
    exact ⟨_, by rw [HA0.out]; rfl, by rw [HA0.out]; exact (HBACK.out _ _ _ _ _ _ _ hL5).1.live⟩

/-- Add, whatever the part. -/
theorem rin_add {f : Fr} {w : World} {m r l0 l1 : Nat} {sv lv : Value} {S : InSt} (h : RInLive f w m r l0 l1 sv lv S) (x : InR) (hk : Cl.In64 x.key) (hv : Cl.In64 x.val) (hm : S.D.loose.length ≤ 1000000000) (h0 : S.L0.rs.length ≤ 900000000) (h1 : S.L1.rs.length ≤ 900000000) :
    Calls Try.prog 29 #[ptr m 0, x.val'] w fun e w' => ∃ lv', e = .returned (.int .i64 (S.add x).1) ∧ RInLive f w' m r l0 l1 sv lv' (S.add x).2 := by
  by_cases hx : x.part < 0 ∨ 2 ≤ x.part
  · exact (rinadd_arg h x hx).mono fun _ _ ⟨a, b⟩ => ⟨lv, a, b⟩
  · by_cases hn : 500 ≤ S.rs.length
    · exact (rinadd_full h x hx hn).mono fun _ _ ⟨a, b⟩ => ⟨lv, a, b⟩
    · obtain ⟨p, k, v⟩ := x
      obtain ⟨q, rfl⟩ : ∃ q : Nat, p = q := ⟨p.toNat, by have hx : ¬ (p < 0 ∨ 2 ≤ p) := hx; omega⟩
      have hx : ¬ ((q : Int) < 0 ∨ 2 ≤ (q : Int)) := hx
      exact rinadd_good h q (by omega) k v hk hv (by omega) hm h0 h1

end Go.Proofs.Ytllecjhfbojgcaa
