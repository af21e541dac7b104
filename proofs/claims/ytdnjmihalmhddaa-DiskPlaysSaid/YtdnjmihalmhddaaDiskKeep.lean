/-
  A disk made since, and blocks that are none of its: each call leaves those.
-/
import Derived.Test.YtdnjmihalmhddaaDiskLive
namespace Go.Proofs.Ytdnjmihalmhddaa
open Go.RowKit

/-- A disk, and blocks that are none of its. -/
def DkK (w0 w : World) (d : Nat) (D : Dk.St) (K : Nat → Prop) : Prop :=
  ∃ F, DiskAt w d D F ∧ (∀ k, F k → w0.heap.size ≤ k) ∧ Below w0.heap.size w0 w ∧ ∀ k, K k → k < w.heap.size ∧ ¬ F k

theorem DkK.live {w0 w : World} {d : Nat} {D : Dk.St} {K : Nat → Prop} (h : DkK w0 w d D K) : Live w0 w d D := by
  obtain ⟨F, h1, h4, h6, h7⟩ := h
  exact ⟨F, h1, h4, h6⟩
theorem Live.dkk {w0 w : World} {d : Nat} {D : Dk.St} (h : Live w0 w d D) : DkK w0 w d D (fun _ => False) := by
  obtain ⟨F, h1, h4, h6⟩ := h
  exact ⟨F, h1, h4, h6, fun _ h => h.elim⟩
theorem DkK.bel {w0 w : World} {d : Nat} {D : Dk.St} {K : Nat → Prop} (h : DkK w0 w d D K) : Below w0.heap.size w0 w := h.live.bel
theorem DkK.less {w0 w : World} {d : Nat} {D : Dk.St} {K K' : Nat → Prop} (h : DkK w0 w d D K) (hk : ∀ k, K' k → K k) : DkK w0 w d D K' := by
  obtain ⟨F, h1, h4, h6, h7⟩ := h
  exact ⟨F, h1, h4, h6, fun k h => h7 k (hk k h)⟩
theorem DkK.grow {w0 w w' : World} {d : Nat} {D : Dk.St} {K : Nat → Prop} (h : DkK w0 w d D K) (hb : Below w.heap.size w w') : DkK w0 w' d D (fun k => K k ∨ (w.heap.size ≤ k ∧ k < w'.heap.size)) := by
  obtain ⟨F, h1, h4, h6, h7⟩ := h
  have hs := hb.size
  refine ⟨F, h1.below hb, h4, h6.trans (hb.mono h6.size), fun k hk => ?_⟩
  rcases hk with hk | ⟨hk, hk'⟩
  · obtain ⟨h8, h9⟩ := h7 k hk
    exact ⟨by omega, h9⟩
  · exact ⟨hk', fun hf => by have := h1.lt k hf; omega⟩
/-- Blocks that are none of its may change. -/
theorem DkK.only {w0 w w' : World} {d : Nat} {D : Dk.St} {K S : Nat → Prop} (h : DkK w0 w d D K) (ho : Only S w w') (hS : ∀ k, S k → K k ∧ w0.heap.size ≤ k) : DkK w0 w' d D (fun k => K k ∨ (w.heap.size ≤ k ∧ k < w'.heap.size)) := by
  obtain ⟨F, h1, h4, h6, h7⟩ := h
  have hs := ho.size
  refine ⟨F, h1.only ho (fun k hk hs => (h7 k (hS k hs).1).2 hk), h4, h6.trans (ho.toBelow h6.size (fun i hi => (hS i hi).2)), fun k hk => ?_⟩
  rcases hk with hk | ⟨hk, hk'⟩
  · obtain ⟨h8, h9⟩ := h7 k hk
    exact ⟨by omega, h9⟩
  · exact ⟨hk', fun hf => by have := h1.lt k hf; omega⟩

theorem DkK.turned {w0 w w' : World} {d : Nat} {D' : Dk.St} {F K : Nat → Prop} (h4 : ∀ k, F k → w0.heap.size ≤ k) (h6 : Below w0.heap.size w0 w) (h7 : ∀ k, K k → k < w.heap.size ∧ ¬ F k) (ht : Turned w w' d D' F) :
    DkK w0 w' d D' K ∧ (∀ k, K k → w'.heap[k]? = w.heap[k]?) ∧ w.heap.size ≤ w'.heap.size := by
  obtain ⟨F', ho, hd, hF⟩ := ht
  have hs := h6.size
  have hos := ho.size
  refine ⟨⟨F', hd, fun k hk => ?_, h6.trans (ho.toBelow hs h4), fun k hk => ?_⟩, fun k hk => ho.block k (h7 k hk).1 (h7 k hk).2, hos⟩
  · rcases hF k hk with h | h
    · exact h4 k h
    · omega
  · obtain ⟨h8, h9⟩ := h7 k hk
    refine ⟨by omega, fun hf => ?_⟩
    rcases hF k hf with h | h
    · exact h9 h
    · omega

theorem dkk_append {w0 w : World} {d : Nat} {D : Dk.St} {K : Nat → Prop} (h : DkK w0 w d D K) (f : Int) (s : ByteArray) (hm : D.loose.length ≤ 1000000000) :
    Calls Try.prog 11 #[ptr d 0, .int .i64 f, .string s] w fun e w' => e = .returned (.int .i64 (Dk.append D f s).1) ∧ DkK w0 w' d (Dk.append D f s).2 K ∧ (∀ k, K k → w'.heap[k]? = w.heap[k]?) ∧ w.heap.size ≤ w'.heap.size := by
  obtain ⟨F, h1, h4, h6, h7⟩ := h
  exact (append_any w d D F h1 f s hm).mono fun _ _ ⟨he, ht⟩ => ⟨he, DkK.turned h4 h6 h7 ht⟩
theorem dkk_cut {w0 w : World} {d : Nat} {D : Dk.St} {K : Nat → Prop} (h : DkK w0 w d D K) (f n : Int) (hm : D.loose.length ≤ 1000000000) :
    Calls Try.prog 18 #[ptr d 0, .int .i64 f, .int .i64 n] w fun e w' => e = .returned (.int .i64 (Dk.cut D f n).1) ∧ DkK w0 w' d (Dk.cut D f n).2 K ∧ (∀ k, K k → w'.heap[k]? = w.heap[k]?) ∧ w.heap.size ≤ w'.heap.size := by
  obtain ⟨F, h1, h4, h6, h7⟩ := h
  exact (cut_any w d D F h1 f n hm).mono fun _ _ ⟨he, ht⟩ => ⟨he, DkK.turned h4 h6 h7 ht⟩
theorem dkk_move {w0 w : World} {d : Nat} {D : Dk.St} {K : Nat → Prop} (h : DkK w0 w d D K) (a b : Int) (hm : D.loose.length ≤ 1000000000) :
    Calls Try.prog 12 #[ptr d 0, .int .i64 a, .int .i64 b] w fun e w' => e = .returned (.int .i64 (Dk.move D a b).1) ∧ DkK w0 w' d (Dk.move D a b).2 K ∧ (∀ k, K k → w'.heap[k]? = w.heap[k]?) ∧ w.heap.size ≤ w'.heap.size := by
  obtain ⟨F, h1, h4, h6, h7⟩ := h
  exact (move_any w d D F h1 a b hm).mono fun _ _ ⟨he, ht⟩ => ⟨he, DkK.turned h4 h6 h7 ht⟩
theorem dkk_sync {w0 w : World} {d : Nat} {D : Dk.St} {K : Nat → Prop} (h : DkK w0 w d D K) :
    Calls Try.prog 15 #[ptr d 0] w fun e w' => e = .returned (.int .i64 (Dk.sync D).1) ∧ DkK w0 w' d (Dk.sync D).2 K ∧ (∀ k, K k → w'.heap[k]? = w.heap[k]?) ∧ w.heap.size ≤ w'.heap.size := by
  obtain ⟨F, h1, h4, h6, h7⟩ := h
  exact (sync_any w d D F h1).mono fun _ _ ⟨he, ho, hd⟩ => ⟨he, DkK.turned h4 h6 h7 ⟨F, ho.mono (fun i e => e ▸ h1.mem), hd, fun _ hk => .inl hk⟩⟩
theorem dkk_crash {w0 w : World} {d : Nat} {D : Dk.St} {K : Nat → Prop} (h : DkK w0 w d D K) (a b : Int) :
    Calls Try.prog 17 #[ptr d 0, .int .i64 a, .int .i64 b] w fun e w' => e = .returned (.tuple #[]) ∧ DkK w0 w' d (Dk.crash D a b) K ∧ (∀ k, K k → w'.heap[k]? = w.heap[k]?) ∧ w.heap.size ≤ w'.heap.size := by
  obtain ⟨F, h1, h4, h6, h7⟩ := h
  exact (crash_any w d D F h1 a b).mono fun _ _ ⟨he, ho, hd⟩ => ⟨he, DkK.turned h4 h6 h7 ⟨F, ho, hd, fun _ hk => .inl hk⟩⟩

end Go.Proofs.Ytdnjmihalmhddaa
