/-
  A log over a disk, both made since some world: each call.
-/
import Derived.Test.YtllecjhfbojgcaaLogOpen2
import Derived.Test.YtllecjhfbojgcaaLogCut
namespace Go.Proofs.Ytllecjhfbojgcaa
open Go.RowKit
set_option maxRecDepth 20000

def LgLive (w0 w : World) (l d : Nat) (file : Int) (D : Dk.St) (L : Lg.St) : Prop :=
  ∃ F G, DiskAt w d D F ∧ LogAt w l d file L G ∧ (∀ k, F k → ¬ G k) ∧ (∀ k, F k → w0.heap.size ≤ k) ∧ (∀ k, G k → w0.heap.size ≤ k) ∧ Below w0.heap.size w0 w

theorem LgLive.disk {w0 w : World} {l d : Nat} {file : Int} {D : Dk.St} {L : Lg.St} (h : LgLive w0 w l d file D L) : Live w0 w d D := by
  obtain ⟨F, G, h1, h2, h3, h4, h5, h6⟩ := h
  exact ⟨F, h1, h4, h6⟩
theorem LgLive.bel {w0 w : World} {l d : Nat} {file : Int} {D : Dk.St} {L : Lg.St} (h : LgLive w0 w l d file D L) : Below w0.heap.size w0 w := by
  obtain ⟨F, G, h1, h2, h3, h4, h5, h6⟩ := h
  exact h6
theorem LgLive.below {w0 w w' : World} {l d : Nat} {file : Int} {D : Dk.St} {L : Lg.St} (h : LgLive w0 w l d file D L) (hb : Below w.heap.size w w') : LgLive w0 w' l d file D L := by
  obtain ⟨F, G, h1, h2, h3, h4, h5, h6⟩ := h
  exact ⟨F, G, h1.below hb, h2.below hb, h3, h4, h5, h6.trans (hb.mono h6.size)⟩
theorem LgLive.sure {w0 w : World} {l d : Nat} {file : Int} {D : Dk.St} {L : Lg.St} (h : LgLive w0 w l d file D L) : L.sure ≤ L.rs.length := by
  obtain ⟨F, G, h1, h2, -⟩ := h
  exact h2.sure
theorem LgLive.ok {w0 w : World} {l d : Nat} {file : Int} {D : Dk.St} {L : Lg.St} (h : LgLive w0 w l d file D L) : Dk.Ok D := by
  obtain ⟨F, G, h1, h2, -⟩ := h
  exact h1.ok
theorem LgLive.len {w0 w : World} {l d : Nat} {file : Int} {D : Dk.St} {L : Lg.St} (h : LgLive w0 w l d file D L) : L.rs.length ≤ 9223372036854775807 := by
  obtain ⟨F, G, h1, h2, -⟩ := h
  obtain ⟨lv, -, hr, -⟩ := h2.cells
  have := hr.reads.lenLe
  unfold maxLen at this
  omega

/-- Behind a call of the log. -/
theorem LgLive.turned {w0 w w' : World} {l d : Nat} {file : Int} {D' : Dk.St} {L' : Lg.St} {F G : Nat → Prop} (h4 : ∀ k, F k → w0.heap.size ≤ k) (h5 : ∀ k, G k → w0.heap.size ≤ k) (h6 : Below w0.heap.size w0 w) (ht : Turned2 w w' l d file D' L' F G) : LgLive w0 w' l d file D' L' := by
  obtain ⟨F', G', ho, hd, hl, hne, hF, hG⟩ := ht
  have hs := h6.size
  refine ⟨F', G', hd, hl, hne, fun k hk => ?_, fun k hk => ?_, h6.trans (ho.toBelow hs (fun i hi => ?_))⟩
  · rcases hF k hk with h | h
    · exact h4 k h
    · omega
  · rcases hG k hk with h | h
    · exact h5 k h
    · omega
  · rcases hi with h | h
    · exact h4 i h
    · exact h5 i h

theorem lg_put {w0 w : World} {l d : Nat} {file : Int} {D : Dk.St} {L : Lg.St} (h : LgLive w0 w l d file D L) (r : Lg.Rec) (hs : r.text.size ≤ 140737488351232) (hm : D.loose.length ≤ 1000000000) (hbig : (Lg.bytesOf L.rs).length ≤ 900000000) :
    Calls Try.prog 48 #[ptr l 0, .int .u8 (r.kind.toNat : Int), .string r.text] w fun e w' => e = .returned (.int .i64 (Lg.put D file L r).1) ∧ LgLive w0 w' l d file (Lg.put D file L r).2.1 (Lg.put D file L r).2.2 := by
  obtain ⟨F, G, h1, h2, h3, h4, h5, h6⟩ := h
  exact (logput_any w l d file D L F G h1 h2 h3 r hs hm hbig).mono (fun e w' h => ⟨h.1, LgLive.turned h4 h5 h6 h.2⟩)
theorem lg_sync {w0 w : World} {l d : Nat} {file : Int} {D : Dk.St} {L : Lg.St} (h : LgLive w0 w l d file D L) :
    Calls Try.prog 50 #[ptr l 0] w fun e w' => e = .returned (.int .i64 (Lg.sync D L).1) ∧ LgLive w0 w' l d file (Lg.sync D L).2.1 (Lg.sync D L).2.2 := by
  obtain ⟨F, G, h1, h2, h3, h4, h5, h6⟩ := h
  exact (logsync_any w l d file D L F G h1 h2 h3).mono (fun e w' h => ⟨h.1, LgLive.turned h4 h5 h6 h.2⟩)
theorem lg_cut {w0 w : World} {l d : Nat} {file : Int} {D : Dk.St} {L : Lg.St} (h : LgLive w0 w l d file D L) (k : Int) (hm : D.loose.length ≤ 1000000000) :
    Calls Try.prog 81 #[ptr l 0, .int .i64 k] w fun e w' => e = .returned (.int .i64 (Lg.cut D file L k).1) ∧ LgLive w0 w' l d file (Lg.cut D file L k).2.1 (Lg.cut D file L k).2.2 := by
  obtain ⟨F, G, h1, h2, h3, h4, h5, h6⟩ := h
  exact (logcut_any w l d file D L F G h1 h2 h3 k hm).mono (fun e w' h => ⟨h.1, LgLive.turned h4 h5 h6 h.2⟩)
theorem lg_len {w0 w : World} {l d : Nat} {file : Int} {D : Dk.St} {L : Lg.St} (h : LgLive w0 w l d file D L) :
    Calls Try.prog 45 #[ptr l 0] w fun e w' => e = .returned (.int .i64 (L.rs.length : Int)) ∧ w = w' := by
  obtain ⟨F, G, h1, h2, -⟩ := h
  exact loglen_any w l d file L G h2
theorem lg_at {w0 w : World} {l d : Nat} {file : Int} {D : Dk.St} {L : Lg.St} (h : LgLive w0 w l d file D L) (i : Int) :
    Calls Try.prog 46 #[ptr l 0, .int .i64 i] w fun e w' => e = .returned (.tuple #[.int .u8 (Lg.at' L i).1, .string (Lg.at' L i).2.1, .int .i64 (Lg.at' L i).2.2]) ∧ LgLive w0 w' l d file D L ∧ Below w.heap.size w w' := by
  have h' := h
  obtain ⟨F, G, h1, h2, h3, h4, h5, h6⟩ := h
  exact (logat_any w l d file L G h2 i).mono (fun e w' hh => ⟨hh.1, LgLive.below h' hh.2, hh.2⟩)
theorem lg_power {w0 w : World} {l d : Nat} {file : Int} {D : Dk.St} {L : Lg.St} (h : LgLive w0 w l d file D L) (n : Int) (hn : n ≤ 9223372036854775807) :
    Calls Try.prog 19 #[ptr d 0, .int .i64 n] w fun e w' => e = .returned (.int .i64 (Dk.power D n).1) ∧ LgLive w0 w' l d file (Dk.power D n).2 L := by
  obtain ⟨F, G, h1, h2, h3, h4, h5, h6⟩ := h
  refine (power_any w d D F h1 n hn).mono ?_
  rintro e w' ⟨rfl, ho, hd⟩
  have hdg : ∀ k, G k → ¬ k = d := fun k hk e => h3 d h1.mem (e ▸ hk)
  exact ⟨rfl, F, G, hd, h2.only ho hdg, h3, h4, h5, h6.trans (ho.toBelow h6.size (fun i e => by rw [e]; exact h4 d h1.mem))⟩
theorem lg_crash {w0 w : World} {l d : Nat} {file : Int} {D : Dk.St} {L : Lg.St} (h : LgLive w0 w l d file D L) (a b : Int) :
    Calls Try.prog 20 #[ptr d 0, .int .i64 a, .int .i64 b] w fun e w' => e = .returned (.tuple #[]) ∧ LgLive w0 w' l d file (Dk.crash D a b) L := by
  obtain ⟨F, G, h1, h2, h3, h4, h5, h6⟩ := h
  refine (crash_any w d D F h1 a b).mono ?_
  rintro e w' ⟨rfl, ho, hd⟩
  exact ⟨rfl, F, G, hd, h2.only ho (fun k hk hf => h3 k hf hk), h3, h4, h5, h6.trans (ho.toBelow h6.size h4)⟩
theorem lg_open {w0 w : World} {d : Nat} {D : Dk.St} (h : Live w0 w d D) (file : Int) (hr : (Dk.read D file).2 = 0) (hsz : (Dk.read D file).1.size ≤ 5000000) (hm : D.loose.length ≤ 1000000000)
    (hcut : (Dk.cut D file (Lg.bytesOf (Lg.parse (Dk.read D file).1)).length).1 = 0) (hsy : (Dk.sync (Dk.cut D file (Lg.bytesOf (Lg.parse (Dk.read D file).1)).length).2).1 = 0) :
    Calls Try.prog 44 #[ptr d 0, .int .i64 file] w fun e w' => ∃ l, e = .returned (.tuple #[ptr l 0, .int .i64 0]) ∧ LgLive w0 w' l d file (Lg.opened D file) ⟨Lg.parse (Dk.read D file).1, (Lg.parse (Dk.read D file).1).length⟩ := by
  obtain ⟨F, h1, h4, h6⟩ := h
  refine (logopen_any w d D F h1 file hr hsz hm hcut hsy).mono ?_
  rintro e w' ⟨l, rfl, hl, ht⟩
  exact ⟨l, rfl, LgLive.turned h4 (fun _ h => h.elim) h6 ht⟩

end Go.Proofs.Ytllecjhfbojgcaa

/-
  A log over a disk, and blocks that are none of theirs: each call leaves those.
-/
namespace Go.Proofs.Ytllecjhfbojgcaa
open Go.RowKit
set_option maxRecDepth 20000

def LgK (w0 w : World) (l d : Nat) (file : Int) (D : Dk.St) (L : Lg.St) (K : Nat → Prop) : Prop :=
  ∃ F G, DiskAt w d D F ∧ LogAt w l d file L G ∧ (∀ k, F k → ¬ G k) ∧ (∀ k, F k → w0.heap.size ≤ k) ∧ (∀ k, G k → w0.heap.size ≤ k) ∧ Below w0.heap.size w0 w ∧ ∀ k, K k → k < w.heap.size ∧ ¬ F k ∧ ¬ G k

theorem LgK.live {w0 w : World} {l d : Nat} {file : Int} {D : Dk.St} {L : Lg.St} {K : Nat → Prop} (h : LgK w0 w l d file D L K) : LgLive w0 w l d file D L := by
  obtain ⟨F, G, h1, h2, h3, h4, h5, h6, -⟩ := h
  exact ⟨F, G, h1, h2, h3, h4, h5, h6⟩
theorem LgLive.keep {w0 w : World} {l d : Nat} {file : Int} {D : Dk.St} {L : Lg.St} (h : LgLive w0 w l d file D L) : LgK w0 w l d file D L (fun _ => False) := by
  obtain ⟨F, G, h1, h2, h3, h4, h5, h6⟩ := h
  exact ⟨F, G, h1, h2, h3, h4, h5, h6, fun _ h => h.elim⟩
theorem LgK.bel {w0 w : World} {l d : Nat} {file : Int} {D : Dk.St} {L : Lg.St} {K : Nat → Prop} (h : LgK w0 w l d file D L K) : Below w0.heap.size w0 w := h.live.bel
theorem LgK.less {w0 w : World} {l d : Nat} {file : Int} {D : Dk.St} {L : Lg.St} {K K' : Nat → Prop} (h : LgK w0 w l d file D L K) (hk : ∀ k, K' k → K k) : LgK w0 w l d file D L K' := by
  obtain ⟨F, G, h1, h2, h3, h4, h5, h6, h7⟩ := h
  exact ⟨F, G, h1, h2, h3, h4, h5, h6, fun k h => h7 k (hk k h)⟩
/-- New blocks are none of theirs. -/
theorem LgK.grow {w0 w w' : World} {l d : Nat} {file : Int} {D : Dk.St} {L : Lg.St} {K : Nat → Prop} (h : LgK w0 w l d file D L K) (hb : Below w.heap.size w w') : LgK w0 w' l d file D L (fun k => K k ∨ (w.heap.size ≤ k ∧ k < w'.heap.size)) := by
  obtain ⟨F, G, h1, h2, h3, h4, h5, h6, h7⟩ := h
  have hs := hb.size
  refine ⟨F, G, h1.below hb, h2.below hb, h3, h4, h5, h6.trans (hb.mono h6.size), fun k hk => ?_⟩
  rcases hk with hk | ⟨hk, hk'⟩
  · obtain ⟨h8, h9⟩ := h7 k hk
    exact ⟨by omega, h9⟩
  · exact ⟨hk', fun hf => by have := h1.lt k hf; omega, fun hg => by have := h2.lt k hg; omega⟩
/-- Blocks that are none of theirs may change. -/
theorem LgK.only {w0 w w' : World} {l d : Nat} {file : Int} {D : Dk.St} {L : Lg.St} {K S : Nat → Prop} (h : LgK w0 w l d file D L K) (ho : Only S w w') (hS : ∀ k, S k → K k ∧ w0.heap.size ≤ k) : LgK w0 w' l d file D L K := by
  obtain ⟨F, G, h1, h2, h3, h4, h5, h6, h7⟩ := h
  have hs := ho.size
  refine ⟨F, G, h1.only ho (fun k hk hs => (h7 k (hS k hs).1).2.1 hk), h2.only ho (fun k hk hs => (h7 k (hS k hs).1).2.2 hk), h3, h4, h5, h6.trans (ho.toBelow h6.size (fun i hi => (hS i hi).2)), fun k hk => ?_⟩
  obtain ⟨h8, h9⟩ := h7 k hk
  exact ⟨by omega, h9⟩

/-- Behind a call of the log. -/
theorem LgK.turned {w0 w w' : World} {l d : Nat} {file : Int} {D' : Dk.St} {L' : Lg.St} {F G K : Nat → Prop} (h4 : ∀ k, F k → w0.heap.size ≤ k) (h5 : ∀ k, G k → w0.heap.size ≤ k) (h6 : Below w0.heap.size w0 w) (h7 : ∀ k, K k → k < w.heap.size ∧ ¬ F k ∧ ¬ G k) (ht : Turned2 w w' l d file D' L' F G) :
    LgK w0 w' l d file D' L' K ∧ ∀ k, K k → w'.heap[k]? = w.heap[k]? := by
  obtain ⟨F', G', ho, hd, hl, hne, hF, hG⟩ := ht
  have hs := h6.size
  have hos := ho.size
  refine ⟨⟨F', G', hd, hl, hne, fun k hk => ?_, fun k hk => ?_, h6.trans (ho.toBelow hs (fun i hi => ?_)), fun k hk => ?_⟩, fun k hk => ?_⟩
  · rcases hF k hk with h | h
    · exact h4 k h
    · omega
  · rcases hG k hk with h | h
    · exact h5 k h
    · omega
  · rcases hi with h | h
    · exact h4 i h
    · exact h5 i h
  · obtain ⟨h8, h9, h10⟩ := h7 k hk
    refine ⟨by omega, fun hf => ?_, fun hg => ?_⟩
    · rcases hF k hf with h | h
      · exact h9 h
      · omega
    · rcases hG k hg with h | h
      · exact h10 h
      · omega
  · obtain ⟨h8, h9, h10⟩ := h7 k hk
    exact ho.block k h8 (fun h => h.elim h9 h10)

theorem lgk_put {w0 w : World} {l d : Nat} {file : Int} {D : Dk.St} {L : Lg.St} {K : Nat → Prop} (h : LgK w0 w l d file D L K) (r : Lg.Rec) (hs : r.text.size ≤ 140737488351232) (hm : D.loose.length ≤ 1000000000) (hbig : (Lg.bytesOf L.rs).length ≤ 900000000) :
    Calls Try.prog 48 #[ptr l 0, .int .u8 (r.kind.toNat : Int), .string r.text] w fun e w' => e = .returned (.int .i64 (Lg.put D file L r).1) ∧ LgK w0 w' l d file (Lg.put D file L r).2.1 (Lg.put D file L r).2.2 K ∧ ∀ k, K k → w'.heap[k]? = w.heap[k]? := by
  obtain ⟨F, G, h1, h2, h3, h4, h5, h6, h7⟩ := h
  exact (logput_any w l d file D L F G h1 h2 h3 r hs hm hbig).mono (fun e w' h => ⟨h.1, LgK.turned h4 h5 h6 h7 h.2⟩)
theorem lgk_sync {w0 w : World} {l d : Nat} {file : Int} {D : Dk.St} {L : Lg.St} {K : Nat → Prop} (h : LgK w0 w l d file D L K) :
    Calls Try.prog 50 #[ptr l 0] w fun e w' => e = .returned (.int .i64 (Lg.sync D L).1) ∧ LgK w0 w' l d file (Lg.sync D L).2.1 (Lg.sync D L).2.2 K ∧ ∀ k, K k → w'.heap[k]? = w.heap[k]? := by
  obtain ⟨F, G, h1, h2, h3, h4, h5, h6, h7⟩ := h
  exact (logsync_any w l d file D L F G h1 h2 h3).mono (fun e w' h => ⟨h.1, LgK.turned h4 h5 h6 h7 h.2⟩)
theorem lgk_cut {w0 w : World} {l d : Nat} {file : Int} {D : Dk.St} {L : Lg.St} {K : Nat → Prop} (h : LgK w0 w l d file D L K) (k : Int) (hm : D.loose.length ≤ 1000000000) :
    Calls Try.prog 81 #[ptr l 0, .int .i64 k] w fun e w' => e = .returned (.int .i64 (Lg.cut D file L k).1) ∧ LgK w0 w' l d file (Lg.cut D file L k).2.1 (Lg.cut D file L k).2.2 K ∧ ∀ k, K k → w'.heap[k]? = w.heap[k]? := by
  obtain ⟨F, G, h1, h2, h3, h4, h5, h6, h7⟩ := h
  exact (logcut_any w l d file D L F G h1 h2 h3 k hm).mono (fun e w' h => ⟨h.1, LgK.turned h4 h5 h6 h7 h.2⟩)

end Go.Proofs.Ytllecjhfbojgcaa
