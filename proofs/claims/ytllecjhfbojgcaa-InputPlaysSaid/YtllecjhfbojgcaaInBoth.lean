/-
  An input and the reference's, side by side: each keeps its own blocks.
-/
import Derived.Test.YtllecjhfbojgcaaRefOpen
import Derived.Test.YtllecjhfbojgcaaBothDisk
import Derived.Test.YtllecjhfbojgcaaInK
namespace Go.Proofs.Ytllecjhfbojgcaa
open Go.RowKit
set_option maxRecDepth 20000

/-- What stands in blocks of its own, whatever else changes. -/
structure Own (P : Fr → World → Prop) (f : Fr) (w : World) (U : Nat → Prop) : Prop where
  lt : ∀ k, U k → k < w.heap.size
  old : Since f w
  new : ∀ k, U k → ¬ f.K k
  keep : ∀ (f' : Fr) (w' : World), Since f' w' → (∀ k, U k → ¬ f'.K k) → (∀ k, U k → w'.heap[k]? = w.heap[k]?) → w.heap.size ≤ w'.heap.size → P f' w'
def Owns (P : Fr → World → Prop) : Prop := ∀ f w, P f w → ∃ U, Own P f w U
theorem Own.move {P : Fr → World → Prop} {f f' : Fr} {w w' : World} {U : Nat → Prop} (h : Own P f w U) (hs : Since f' w') (hn : ∀ k, U k → ¬ f'.K k) (hk : ∀ k, U k → w'.heap[k]? = w.heap[k]?) (hsz : w.heap.size ≤ w'.heap.size) : Own P f' w' U :=
  ⟨fun k hk' => Nat.lt_of_lt_of_le (h.lt k hk') hsz, hs, hn, fun f'' w'' h1 h2 h3 h4 => h.keep f'' w'' h1 h2 (fun k hk' => (h3 k hk').trans (hk k hk')) (Nat.le_trans hsz h4)⟩

/-- Two that keep apart. -/
def Two2 (P Q : Fr → World → Prop) (f : Fr) (w : World) : Prop := ∃ U V, Own P f w U ∧ Own Q f w V ∧ ∀ k, U k → ¬ V k

theorem Two2.old {P Q : Fr → World → Prop} {f : Fr} {w : World} (h : Two2 P Q f w) : Since f w := by
  obtain ⟨U, V, h1, h2, h3⟩ := h
  exact h1.old
theorem Two2.swap {P Q : Fr → World → Prop} {f : Fr} {w : World} (h : Two2 P Q f w) : Two2 Q P f w := by
  obtain ⟨U, V, h1, h2, h3⟩ := h
  exact ⟨V, U, h2, h1, fun k hk hu => h3 k hu hk⟩
theorem Two2.fst {P Q : Fr → World → Prop} {f : Fr} {w : World} (h : Two2 P Q f w) : P f w := by
  obtain ⟨U, V, h1, h2, h3⟩ := h
  exact h1.keep f w h1.old h1.new (fun _ _ => rfl) (Nat.le_refl _)
theorem Two2.snd {P Q : Fr → World → Prop} {f : Fr} {w : World} (h : Two2 P Q f w) : Q f w := h.swap.fst
theorem Two2.below {P Q : Fr → World → Prop} {f : Fr} {w w' : World} (h : Two2 P Q f w) (hb : Below w.heap.size w w') : Two2 P Q f w' := by
  obtain ⟨U, V, h1, h2, h3⟩ := h
  exact ⟨U, V, h1.move (h1.old.below hb) h1.new (fun k hk => hb.block k (h1.lt k hk)) hb.size, h2.move (h2.old.below hb) h2.new (fun k hk => hb.block k (h2.lt k hk)) hb.size, h3⟩
/-- A call of the first one, in a frame that has the second one. -/
theorem Two2.left {P Q : Fr → World → Prop} {f : Fr} {w : World} (h : Two2 P Q f w) : ∃ f1 : Fr, P f1 w ∧ ∀ (P' : Fr → World → Prop) w', Owns P' → P' f1 w' → Two2 P' Q f w' := by
  obtain ⟨U, V, h1, h2, h3⟩ := h
  refine ⟨f.more h1.old V h2.lt, h1.keep _ w (Since.refl _ _ _) (fun k hk e => e.elim (h1.new k hk) (h3 k hk)) (fun _ _ => rfl) (Nat.le_refl _), fun P' w' ho hp => ?_⟩
  obtain ⟨U', h4⟩ := ho _ _ hp
  obtain ⟨h5, h6⟩ := Since.more h4.old
  have hsz : w.heap.size ≤ w'.heap.size := h4.old.size
  exact ⟨U', V, h4.move h5 (fun k hk e => h4.new k hk (.inl e)) (fun _ _ => rfl) (Nat.le_refl _), h2.move h5 h2.new h6 hsz, fun k hk hv => h4.new k hk (.inr hv)⟩
theorem Two2.right {P Q : Fr → World → Prop} {f : Fr} {w : World} (h : Two2 P Q f w) : ∃ f1 : Fr, Q f1 w ∧ ∀ (Q' : Fr → World → Prop) w', Owns Q' → Q' f1 w' → Two2 P Q' f w' := by
  obtain ⟨f1, h1, h2⟩ := h.swap.left
  exact ⟨f1, h1, fun Q' w' ho hq => (h2 Q' w' ho hq).swap⟩
/-- A box beside them. -/
theorem Two2.box {P Q : Fr → World → Prop} {f : Fr} {w w1 : World} (h : Two2 P Q f w) (hb : Below w.heap.size w w1) (b : Nat) (hbw : w.heap.size ≤ b) (hb1 : b < w1.heap.size) :
    ∃ f1 : Fr, Two2 P Q f1 w1 ∧ ∀ (P' Q' : Fr → World → Prop) w', Two2 P' Q' f1 w' → Two2 P' Q' f w' ∧ w'.heap[b]? = w1.heap[b]? := by
  obtain ⟨U, V, h1, h2, h3⟩ := h
  have hs1 := h1.old.below hb
  have hsz := hb.size
  refine ⟨f.more hs1 (fun k => k = b) (fun k hk => by rw [show k = b from hk]; exact hb1), ⟨U, V, h1.move (Since.refl _ _ _) (fun k hk e => e.elim (h1.new k hk) (fun e => by have := h1.lt k hk; have e : k = b := e; omega)) (fun k hk => hb.block k (h1.lt k hk)) hsz, h2.move (Since.refl _ _ _) (fun k hk e => e.elim (h2.new k hk) (fun e => by have := h2.lt k hk; have e : k = b := e; omega)) (fun k hk => hb.block k (h2.lt k hk)) hsz, h3⟩, fun P' Q' w' h' => ?_⟩
  obtain ⟨U', V', h4, h5, h6⟩ := h'
  obtain ⟨h7, h8⟩ := Since.more h4.old
  exact ⟨⟨U', V', h4.move h7 (fun k hk e => h4.new k hk (.inl e)) (fun _ _ => rfl) (Nat.le_refl _), h5.move h7 (fun k hk e => h5.new k hk (.inl e)) (fun _ _ => rfl) (Nat.le_refl _), h6⟩, h8 b rfl⟩

theorem owns_live (d : Nat) (D : Dk.St) : Owns (fun f w => LiveF f w d D) := fun _ _ ⟨F, h1, h2, h3⟩ =>
  ⟨F, h1.lt, h3, h2, fun _ _ hs hn hk hsz => ⟨F, h1.kept hk hsz, hn, hs⟩⟩
theorem owns_rlive (r : Nat) (D : Dk.St) : Owns (fun f w => RLiveF f w r D) := fun _ _ ⟨F, h1, h2, h3⟩ =>
  ⟨F, h1.lt, h3, h2, fun _ _ hs hn hk hsz => ⟨F, h1.kept hk hsz, hn, hs⟩⟩
theorem owns_in (n d l0 l1 : Nat) (lv : Value) (S : InSt) : Owns (fun f w => InLive f w n d l0 l1 lv S) := fun f w ⟨F, G0, G1, N, h⟩ => by
  refine ⟨fun k => F k ∨ G0 k ∨ G1 k ∨ N k, fun k hk => ?_, h.old, h.new, fun f' w' hs hn hk hsz => ⟨F, G0, G1, N, hs, h.disk.kept (fun k hk' => hk k (.inl hk')) hsz, h.log0.kept (fun k hk' => hk k (.inr (.inl hk'))) hsz, h.log1.kept (fun k hk' => hk k (.inr (.inr (.inl hk')))) hsz,
    (hk n (.inr (.inr (.inr h.mem)))).trans h.cell, h.row.kept (fun g hg => hk g (.inr (.inr (.inr (h.own g hg))))), h.mem, h.own, fun k hk' => Nat.lt_of_lt_of_le (h.lt k hk') hsz, h.f0, h.f1, h.fn, h.g01, h.g0n, h.g1n, hn⟩⟩
  rcases hk with hk | hk | hk | hk
  · exact h.disk.lt k hk
  · exact h.log0.lt k hk
  · exact h.log1.lt k hk
  · exact h.lt k hk
theorem owns_rin (m r l0 l1 : Nat) (sv lv : Value) (S : InSt) : Owns (fun f w => RInLive f w m r l0 l1 sv lv S) := fun f w ⟨F, G0, G1, N, h⟩ => by
  refine ⟨fun k => F k ∨ G0 k ∨ G1 k ∨ N k, fun k hk => ?_, h.old, h.new, fun f' w' hs hn hk hsz => ⟨F, G0, G1, N, hs, h.disk.kept (fun k hk' => hk k (.inl hk')) hsz, h.log0.kept (fun k hk' => hk k (.inr (.inl hk'))) hsz, h.log1.kept (fun k hk' => hk k (.inr (.inr (.inl hk')))) hsz,
    (hk m (.inr (.inr (.inr h.mem)))).trans h.cell, own_kept h.logs (fun g hg => hk g (.inr (.inr (.inr (h.own g (.inl hg)))))), own_kept h.row (fun g hg => hk g (.inr (.inr (.inr (h.own g (.inr hg)))))), h.mem, h.own, fun k hk' => Nat.lt_of_lt_of_le (h.lt k hk') hsz, h.f0, h.f1, h.fn, h.g01, h.g0n, h.g1n, hn⟩⟩
  rcases hk with hk | hk | hk | hk
  · exact h.disk.lt k hk
  · exact h.log0.lt k hk
  · exact h.log1.lt k hk
  · exact h.lt k hk

/-- Both disks alone; both inputs. -/
def Disks (d r : Nat) (D : Dk.St) : Fr → World → Prop := Two2 (fun f w => LiveF f w d D) (fun f w => RLiveF f w r D)
def Inputs (d r n l0 l1 m q0 q1 : Nat) (lv sv mv : Value) (S : InSt) : Fr → World → Prop := Two2 (fun f w => InLive f w n d l0 l1 lv S) (fun f w => RInLive f w m r q0 q1 sv mv S)

theorem Disks.ofBoth {w0 w : World} {d r : Nat} {D : Dk.St} {K : Nat → Prop} (h : BothD w0 w d r D D K) : Disks d r D (Fr.all w0) w := by
  obtain ⟨F, G, h1, h2, h3, h4, h5, h6, h7⟩ := h
  have hs : Since (Fr.all w0) w := Since.of h6
  have nF : ∀ k, F k → ¬ (Fr.all w0).K k := fun k hk e => by have := h4 k hk; have e : k < w0.heap.size := e; omega
  have nG : ∀ k, G k → ¬ (Fr.all w0).K k := fun k hk e => by have := h5 k hk; have e : k < w0.heap.size := e; omega
  exact ⟨F, G, ⟨h1.lt, hs, nF, fun _ _ hs' hn hk hsz => ⟨F, h1.kept hk hsz, hn, hs'⟩⟩, ⟨h2.lt, hs, nG, fun _ _ hs' hn hk hsz => ⟨G, h2.kept hk hsz, hn, hs'⟩⟩, h3⟩
theorem Inputs.disks {d r n l0 l1 m q0 q1 : Nat} {lv sv mv : Value} {S : InSt} {f : Fr} {w : World} (h : Inputs d r n l0 l1 m q0 q1 lv sv mv S f w) : Disks d r S.D f w := by
  obtain ⟨f1, h1, h2⟩ := Two2.left h
  obtain ⟨f3, h3, h4⟩ := Two2.right (h2 _ w (owns_live d S.D) h1.liveF)
  exact h4 _ w (owns_rlive r S.D) h3.liveF

/-! Calls. -/
theorem rpower_live {f : Fr} {w : World} {r : Nat} {D : Dk.St} (h : RLiveF f w r D) (n : Int) (hn : n ≤ 9223372036854775807) :
    Calls Try.prog 27 #[ptr r 0, .int .i64 n] w fun e w' => e = .returned (.int .i64 (Dk.power D n).1) ∧ RLiveF f w' r (Dk.power D n).2 := by
  obtain ⟨F, h1, h2, h3⟩ := h
  exact (rpower_any w r D F h1 n hn).mono fun _ _ ⟨he, ht⟩ => ⟨he, RLiveF.turned h2 h3 ht⟩
theorem power_live {f : Fr} {w : World} {d : Nat} {D : Dk.St} (h : LiveF f w d D) (n : Int) (hn : n ≤ 9223372036854775807) :
    Calls Try.prog 19 #[ptr d 0, .int .i64 n] w fun e w' => e = .returned (.int .i64 (Dk.power D n).1) ∧ LiveF f w' d (Dk.power D n).2 := by
  obtain ⟨F, h1, h2, h3⟩ := h
  exact (power_any w d D F h1 n hn).mono fun _ _ ⟨he, ho, hd⟩ => ⟨he, F, hd, h2, h3.only ho (fun i e => by rw [show i = d from e]; exact h2 d h1.mem)⟩
theorem crash_live {f : Fr} {w : World} {d : Nat} {D : Dk.St} (h : LiveF f w d D) (a b : Int) :
    Calls Try.prog 20 #[ptr d 0, .int .i64 a, .int .i64 b] w fun e w' => e = .returned (.tuple #[]) ∧ LiveF f w' d (Dk.crash D a b) := by
  obtain ⟨F, h1, h2, h3⟩ := h
  exact (crash_any w d D F h1 a b).mono fun _ _ ⟨he, ho, hd⟩ => ⟨he, F, hd, h2, h3.only ho h2⟩
theorem rcrash_live {f : Fr} {w : World} {r : Nat} {D : Dk.St} (h : RLiveF f w r D) (a b : Int) :
    Calls Try.prog 28 #[ptr r 0, .int .i64 a, .int .i64 b] w fun e w' => e = .returned (.tuple #[]) ∧ RLiveF f w' r (Dk.crash D a b) := by
  obtain ⟨F, h1, h2, h3⟩ := h
  exact (rcrash_any w r D F h1 a b).mono fun _ _ ⟨he, ht⟩ => ⟨he, RLiveF.turned h2 h3 ht⟩
theorem rin_power {f : Fr} {w : World} {m r l0 l1 : Nat} {sv lv : Value} {S : InSt} (h : RInLive f w m r l0 l1 sv lv S) (p : Int) (hp : p ≤ 9223372036854775807) :
    Calls Try.prog 27 #[ptr r 0, .int .i64 p] w fun e w' => e = .returned (.int .i64 (Dk.power S.D p).1) ∧ RInLive f w' m r l0 l1 sv lv { S with D := (Dk.power S.D p).2 } := by
  obtain ⟨F, G0, G1, N, h⟩ := h
  refine (rpower_any w r S.D F h.disk p hp).mono ?_
  rintro e w' ⟨rfl, F', ho, hd, hF⟩
  have hs := ho.size
  have e0 : ∀ k, G0 k → ¬ F k := fun k hk e => h.f0 k e hk
  have e1 : ∀ k, G1 k → ¬ F k := fun k hk e => h.f1 k e hk
  have en : ∀ k, N k → ¬ F k := fun k hk e => h.fn k e hk
  have hN : ∀ k, N k → w'.heap[k]? = w.heap[k]? := fun k hk => ho.block k (h.lt k hk) (en k hk)
  refine ⟨rfl, F', G0, G1, N, h.old.only ho (fun i hi => h.new i (.inl hi)), hd, h.log0.only ho e0, h.log1.only ho e1, (hN m h.mem).trans h.cell, own_kept h.logs (fun g hg => hN g (h.own g (.inl hg))), own_kept h.row (fun g hg => hN g (h.own g (.inr hg))), h.mem, h.own, fun k hk => Nat.lt_of_lt_of_le (h.lt k hk) hs, dis_new hF h.f0 h.log0.lt, dis_new hF h.f1 h.log1.lt, dis_new hF h.fn h.lt, h.g01, h.g0n, h.g1n, fun k hk => ?_⟩
  rcases hk with hk | hk
  · rcases hF k hk with e | e
    · exact h.new k (.inl e)
    · exact h.old.fresh e
  · exact h.new k (.inr hk)

theorem ds_power {d r : Nat} {D : Dk.St} {f : Fr} {w : World} (h : Disks d r D f w) (n : Int) (hn : n ≤ 9223372036854775807) :
    Calls Try.prog 19 #[ptr d 0, .int .i64 n] w fun e w' => e = .returned (.int .i64 (Dk.power D n).1) ∧ ∀ w'', Below w'.heap.size w' w'' → Calls Try.prog 27 #[ptr r 0, .int .i64 n] w'' fun e w3 => e = .returned (.int .i64 (Dk.power D n).1) ∧ Disks d r (Dk.power D n).2 f w3 := by
  obtain ⟨f1, h1, h2⟩ := Two2.left h
  refine (power_live h1 n hn).mono fun e w' ⟨he, h3⟩ => ⟨he, fun w'' hb => ?_⟩
  obtain ⟨f4, h4, h5⟩ := Two2.right ((h2 _ w' (owns_live d _) h3).below hb)
  exact (rpower_live h4 n hn).mono fun e w3 ⟨he, h6⟩ => ⟨he, h5 _ w3 (owns_rlive r _) h6⟩

/-- The two calls, one behind the other: what is between is two that keep apart. -/
theorem ds_power1 {d r : Nat} {D : Dk.St} {f : Fr} {w : World} (h : Disks d r D f w) (n : Int) (hn : n ≤ 9223372036854775807) :
    Calls Try.prog 19 #[ptr d 0, .int .i64 n] w fun e w' => e = .returned (.int .i64 (Dk.power D n).1) ∧ Two2 (fun f w => LiveF f w d (Dk.power D n).2) (fun f w => RLiveF f w r D) f w' := by
  obtain ⟨f1, h1, h2⟩ := Two2.left h
  exact (power_live h1 n hn).mono fun e w' ⟨he, h3⟩ => ⟨he, h2 _ w' (owns_live d _) h3⟩
theorem ds_power2 {d r : Nat} {D D' : Dk.St} {f : Fr} {w : World} (h : Two2 (fun f w => LiveF f w d D') (fun f w => RLiveF f w r D) f w) (n : Int) (hn : n ≤ 9223372036854775807) :
    Calls Try.prog 27 #[ptr r 0, .int .i64 n] w fun e w' => e = .returned (.int .i64 (Dk.power D n).1) ∧ Two2 (fun f w => LiveF f w d D') (fun f w => RLiveF f w r (Dk.power D n).2) f w' := by
  obtain ⟨f1, h1, h2⟩ := Two2.right h
  exact (rpower_live h1 n hn).mono fun e w' ⟨he, h3⟩ => ⟨he, h2 _ w' (owns_rlive r _) h3⟩
theorem ds_crash1 {d r : Nat} {D : Dk.St} {f : Fr} {w : World} (h : Disks d r D f w) (a b : Int) :
    Calls Try.prog 20 #[ptr d 0, .int .i64 a, .int .i64 b] w fun e w' => e = .returned (.tuple #[]) ∧ Two2 (fun f w => LiveF f w d (Dk.crash D a b)) (fun f w => RLiveF f w r D) f w' := by
  obtain ⟨f1, h1, h2⟩ := Two2.left h
  exact (crash_live h1 a b).mono fun e w' ⟨he, h3⟩ => ⟨he, h2 _ w' (owns_live d _) h3⟩
theorem ds_crash2 {d r : Nat} {D D' : Dk.St} {f : Fr} {w : World} (h : Two2 (fun f w => LiveF f w d D') (fun f w => RLiveF f w r D) f w) (a b : Int) :
    Calls Try.prog 28 #[ptr r 0, .int .i64 a, .int .i64 b] w fun e w' => e = .returned (.tuple #[]) ∧ Two2 (fun f w => LiveF f w d D') (fun f w => RLiveF f w r (Dk.crash D a b)) f w' := by
  obtain ⟨f1, h1, h2⟩ := Two2.right h
  exact (rcrash_live h1 a b).mono fun e w' ⟨he, h3⟩ => ⟨he, h2 _ w' (owns_rlive r _) h3⟩
theorem is_power1 {d r n l0 l1 m q0 q1 : Nat} {lv sv mv : Value} {S : InSt} {f : Fr} {w : World} (h : Inputs d r n l0 l1 m q0 q1 lv sv mv S f w) (p : Int) (hp : p ≤ 9223372036854775807) :
    Calls Try.prog 19 #[ptr d 0, .int .i64 p] w fun e w' => e = .returned (.int .i64 (Dk.power S.D p).1) ∧ Two2 (fun f w => InLive f w n d l0 l1 lv { S with D := (Dk.power S.D p).2 }) (fun f w => RInLive f w m r q0 q1 sv mv S) f w' := by
  obtain ⟨f1, h1, h2⟩ := Two2.left h
  exact (ink_power h1 p hp).mono fun e w' ⟨he, h3⟩ => ⟨he, h2 _ w' (owns_in _ _ _ _ _ _) h3⟩
theorem is_power2 {d r n l0 l1 m q0 q1 : Nat} {lv sv mv : Value} {S S' : InSt} {f : Fr} {w : World} (h : Two2 (fun f w => InLive f w n d l0 l1 lv S') (fun f w => RInLive f w m r q0 q1 sv mv S) f w) (p : Int) (hp : p ≤ 9223372036854775807) :
    Calls Try.prog 27 #[ptr r 0, .int .i64 p] w fun e w' => e = .returned (.int .i64 (Dk.power S.D p).1) ∧ Two2 (fun f w => InLive f w n d l0 l1 lv S') (fun f w => RInLive f w m r q0 q1 sv mv { S with D := (Dk.power S.D p).2 }) f w' := by
  obtain ⟨f1, h1, h2⟩ := Two2.right h
  exact (rin_power h1 p hp).mono fun e w' ⟨he, h3⟩ => ⟨he, h2 _ w' (owns_rin _ _ _ _ _ _ _) h3⟩

/-- Both are opened: the first, then the reference's. -/
def Half (d r : Nat) (D : Dk.St) (f : Fr) (e : Ending) (w : World) : Prop :=
  ∃ x D' o, Opened D x D' o ∧ ((o = none ∧ e = .returned (.tuple #[.pointer none, .int .i64 x]) ∧ Two2 (fun f w => LiveF f w d D') (fun f w => RLiveF f w r D) f w) ∨
    ∃ S n l0 l1 lv, o = some S ∧ x = 0 ∧ S.D = D' ∧ e = .returned (.tuple #[ptr n 0, .int .i64 0]) ∧ Two2 (fun f w => InLive f w n d l0 l1 lv S) (fun f w => RLiveF f w r D) f w)
theorem open1 {d r : Nat} {D : Dk.St} {f : Fr} {w : World} (h : Disks d r D f w) (hm : D.loose.length ≤ 900000000) : Calls Try.prog 13 #[ptr d 0] w (Half d r D f) := by
  obtain ⟨f1, h1, h2⟩ := Two2.left h
  refine (inopen_all f1 w d D h1 hm).mono ?_
  rintro e w' ⟨x, D', o, ho, ⟨rfl, he, hl⟩ | ⟨S, n, l0, l1, lv, rfl, hx, hD, he, hl⟩⟩
  · exact ⟨x, D', none, ho, .inl ⟨rfl, he, h2 _ w' (owns_live _ _) hl⟩⟩
  · exact ⟨x, D', some S, ho, .inr ⟨S, n, l0, l1, lv, rfl, hx, hD, he, h2 _ w' (owns_in _ _ _ _ _ _) hl⟩⟩
theorem open2_none {d r : Nat} {D D' : Dk.St} {x : Int} {f : Fr} {w : World} (ho : Opened D x D' none) (h : Two2 (fun f w => LiveF f w d D') (fun f w => RLiveF f w r D) f w) (hok : Dk.Ok D) (hm : D.loose.length ≤ 900000000) :
    Calls Try.prog 24 #[ptr r 0] w fun e w' => e = .returned (.tuple #[.pointer none, .int .i64 x]) ∧ Disks d r D' f w' := by
  obtain ⟨f1, h1, h2⟩ := Two2.right h
  refine (rinopen_all f1 w r D h1 hm).mono ?_
  rintro e w' ⟨x', D2, o, ho', ⟨rfl, he, hl⟩ | ⟨S, n, l0, l1, sv, lv, rfl, hx, hD, he, hl⟩⟩
  · obtain ⟨rfl, rfl, -⟩ := ho.one hok ho'
    exact ⟨he, h2 _ w' (owns_rlive _ _) hl⟩
  · obtain ⟨-, -, h⟩ := ho.one hok ho'
    cases h
theorem open2_some {d r n l0 l1 : Nat} {lv : Value} {D D' : Dk.St} {x : Int} {S : InSt} {f : Fr} {w : World} (ho : Opened D x D' (some S)) (h : Two2 (fun f w => InLive f w n d l0 l1 lv S) (fun f w => RLiveF f w r D) f w) (hok : Dk.Ok D) (hm : D.loose.length ≤ 900000000) :
    Calls Try.prog 24 #[ptr r 0] w fun e w' => ∃ m q0 q1 sv mv, e = .returned (.tuple #[ptr m 0, .int .i64 0]) ∧ Inputs d r n l0 l1 m q0 q1 lv sv mv S f w' := by
  obtain ⟨f1, h1, h2⟩ := Two2.right h
  refine (rinopen_all f1 w r D h1 hm).mono ?_
  rintro e w' ⟨x', D2, o, ho', ⟨rfl, he, hl⟩ | ⟨S', m, q0, q1, sv, mv, rfl, hx, hD, he, hl⟩⟩
  · obtain ⟨-, -, h⟩ := ho.one hok ho'
    cases h
  · obtain ⟨-, -, h⟩ := ho.one hok ho'
    simp only [Option.some.injEq] at h
    subst h
    exact ⟨m, q0, q1, sv, mv, he, h2 _ w' (owns_rin _ _ _ _ _ _ _) hl⟩

/-! Sizes. -/
structure PFit (j : Nat) (S : InSt) : Prop where
  n : S.rs.length ≤ 500
  m : S.D.loose.length ≤ 1000 + 3 * j
  b0 : (Lg.bytesOf S.L0.rs).length ≤ 5000000 + j * inC
  b1 : (Lg.bytesOf S.L1.rs).length ≤ 5000000 + j * inC
  p : ∀ x ∈ S.rs, x.part = 0 ∨ x.part = 1
theorem PFit.mono {i j : Nat} {S : InSt} (h : PFit i S) (hj : i ≤ j) : PFit j S := by
  have h1 := Nat.mul_le_mul_right inC hj
  have h2 := h.m
  have h3 := h.b0
  have h4 := h.b1
  exact ⟨h.n, by omega, by omega, by omega, h.p⟩
theorem PFit.bounds {j : Nat} {S : InSt} (h : PFit j S) (hj : j ≤ 1000) : S.D.loose.length ≤ 1000000000 ∧ (Lg.bytesOf S.L0.rs).length ≤ 900000000 ∧ (Lg.bytesOf S.L1.rs).length ≤ 900000000 ∧ S.L0.rs.length ≤ 900000000 ∧ S.L1.rs.length ≤ 900000000 := by
  have hc : j * inC ≤ 1000 * 65600 := Nat.mul_le_mul hj (by unfold inC; exact Nat.le_refl _)
  have h1 := h.m
  have h2 := h.b0
  have h3 := h.b1
  have h4 := rs_le S.L0.rs
  have h5 := rs_le S.L1.rs
  have hz : (1000 : Nat) * 65600 = 65600000 := by decide
  rw [hz] at hc
  generalize j * inC = z at *
  exact ⟨by omega, by omega, by omega, by omega, by omega⟩
theorem PFit.add {j : Nat} {S : InSt} (h : PFit j S) (x : InR) : PFit (j + 1) (S.add x).2 := by
  have hn := h.n
  have hm := h.m
  have h0 := h.b0
  have h1 := h.b1
  have he := ent_size S x
  have hc := Nat.succ_mul j inC
  rw [Nat.succ_eq_add_one] at hc
  have same : PFit (j + 1) S := h.mono (by omega)
  unfold InSt.add
  split
  · exact same
  · rename_i hx
    have hx2 : x.part = 0 ∨ x.part = 1 := by omega
    split
    · exact same
    · rename_i hlt
      split
      · have q1 := lput_loose S.D 0 S.L0 (S.ent x)
        have q2 := lput_bytes S.D 0 S.L0 (S.ent x) (by omega)
        split
        · exact ⟨hn, show (Lg.put S.D 0 S.L0 (S.ent x)).2.1.loose.length ≤ _ by omega, show (Lg.bytesOf (Lg.put S.D 0 S.L0 (S.ent x)).2.2.rs).length ≤ _ by omega, show (Lg.bytesOf S.L1.rs).length ≤ _ by omega, h.p⟩
        · have q3 := lsync_loose (Lg.put S.D 0 S.L0 (S.ent x)).2.1 (Lg.put S.D 0 S.L0 (S.ent x)).2.2
          have q4 := lsync_rs (Lg.put S.D 0 S.L0 (S.ent x)).2.1 (Lg.put S.D 0 S.L0 (S.ent x)).2.2
          refine ⟨show (S.rs ++ [x]).length ≤ _ by simp; omega, show (Lg.sync (Lg.put S.D 0 S.L0 (S.ent x)).2.1 (Lg.put S.D 0 S.L0 (S.ent x)).2.2).2.1.loose.length ≤ _ by omega, show (Lg.bytesOf (Lg.sync (Lg.put S.D 0 S.L0 (S.ent x)).2.1 (Lg.put S.D 0 S.L0 (S.ent x)).2.2).2.2.rs).length ≤ _ by rw [q4]; omega, show (Lg.bytesOf S.L1.rs).length ≤ _ by omega, fun y hy => ?_⟩
          have hy : y ∈ S.rs ++ [x] := hy
          rcases List.mem_append.1 hy with hy | hy
          · exact h.p y hy
          · rw [List.mem_singleton.1 hy]; exact hx2
      · have q1 := lput_loose S.D 1 S.L1 (S.ent x)
        have q2 := lput_bytes S.D 1 S.L1 (S.ent x) (by omega)
        split
        · exact ⟨hn, show (Lg.put S.D 1 S.L1 (S.ent x)).2.1.loose.length ≤ _ by omega, show (Lg.bytesOf S.L0.rs).length ≤ _ by omega, show (Lg.bytesOf (Lg.put S.D 1 S.L1 (S.ent x)).2.2.rs).length ≤ _ by omega, h.p⟩
        · have q3 := lsync_loose (Lg.put S.D 1 S.L1 (S.ent x)).2.1 (Lg.put S.D 1 S.L1 (S.ent x)).2.2
          have q4 := lsync_rs (Lg.put S.D 1 S.L1 (S.ent x)).2.1 (Lg.put S.D 1 S.L1 (S.ent x)).2.2
          refine ⟨show (S.rs ++ [x]).length ≤ _ by simp; omega, show (Lg.sync (Lg.put S.D 1 S.L1 (S.ent x)).2.1 (Lg.put S.D 1 S.L1 (S.ent x)).2.2).2.1.loose.length ≤ _ by omega, show (Lg.bytesOf S.L0.rs).length ≤ _ by omega, show (Lg.bytesOf (Lg.sync (Lg.put S.D 1 S.L1 (S.ent x)).2.1 (Lg.put S.D 1 S.L1 (S.ent x)).2.2).2.2.rs).length ≤ _ by rw [q4]; omega, fun y hy => ?_⟩
          have hy : y ∈ S.rs ++ [x] := hy
          rcases List.mem_append.1 hy with hy | hy
          · exact h.p y hy
          · rw [List.mem_singleton.1 hy]; exact hx2
theorem power_loose (D : Dk.St) (n : Int) : (Dk.power D n).2.loose = D.loose := by
  unfold Dk.power
  split
  · rfl
  · split <;> rfl
theorem Opened.fit {D D' : Dk.St} {x : Int} {o : Option InSt} {j : Nat} (hD : Dk.Ok D) (h : Opened D x D' o) (hl : D.loose.length ≤ 1000 + 3 * j) : D'.loose.length ≤ 1000 + 3 * (j + 1) ∧ ∀ S, o = some S → PFit (j + 1) S := by
  have h1 := Lg.openL_loose D 0
  have h2 := Lg.openL_loose (Lg.openL D 0).2.1 1
  have h3 := (Lg.openL_rs hD 0).1
  have h4 := (Lg.openL_rs (Lg.openL_ok hD 0) 1).1
  cases h with
  | bad0 _ => exact ⟨by omega, fun S hS => by cases hS⟩
  | bad1 _ _ => exact ⟨by omega, fun S hS => by cases hS⟩
  | no _ _ _ => exact ⟨by omega, fun S hS => by cases hS⟩
  | good _ _ rs hi hr =>
    refine ⟨by omega, fun S hS => ?_⟩
    simp only [Option.some.injEq] at hS
    subst hS
    exact ⟨hr, by show (Lg.openL (Lg.openL D 0).2.1 1).2.1.loose.length ≤ _; omega, by show (Lg.bytesOf (Lg.openL D 0).2.2.rs).length ≤ _; exact Nat.le_trans h3 (by omega), by show (Lg.bytesOf (Lg.openL (Lg.openL D 0).2.1 1).2.2.rs).length ≤ _; exact Nat.le_trans h4 (by omega), hi.p⟩

/-! Add. -/
set_option maxHeartbeats 4000000 in
theorem inadd_full {w0 : Fr} {w : World} {n d l0 l1 : Nat} {lv : Value} {S : InSt} (h : InLive w0 w n d l0 l1 lv S) (x : InR) (hx : ¬ (x.part < 0 ∨ 2 ≤ x.part)) (hn : 500 ≤ S.rs.length) :
    Calls Try.prog 15 #[ptr n 0, x.val'] w fun e w' => e = .returned (.int .i64 (S.add x).1) ∧ InLive w0 w' n d l0 l1 lv (S.add x).2 := by
  have ha : S.add x = (7, S) := by unfold InSt.add; rw [if_neg hx, if_pos hn]
  rw [ha]
  obtain ⟨p, k, v⟩ := x
  have HL := Lib.hid (h.below (bel_alloc w (.cells #[.int .i64 p, .int .i64 k, .int .i64 v] 32)))
  obtain ⟨hc, hr, -⟩ := h.cells
  obtain ⟨la, lc, rfl⟩ := hr.reads.shape
  have hlen := hr.reads.lenLe
  unfold maxLen at hlen
  have c2 := cells_at hc 2 _ rfl
  have hmw := (Array.getElem?_eq_some_iff.1 hc).1
  have hx : ¬ (p < 0 ∨ 2 ≤ p) := hx
  have hd : ¬ p < 0 := by omega
  have hd2 : ¬ 2 ≤ p := by omega
  obtain ⟨q, hq⟩ : ∃ q, S.rs.length = q := ⟨_, rfl⟩
  rw [hq] at c2 hn hlen
  have hd3 : (500 : Int) ≤ (q : Int) := by omega
  simp only [List.getElem_toArray, List.getElem_cons_zero, List.getElem_cons_succ] at c2
  clear h ha hx hc hr hq
  unfold ptr InR.val'
  show Calls _ _ #[_, .agg #[.int .i64 p, .int .i64 k, .int .i64 v]] _ _
  go_enter Try.func15, Try.ntmps15
  go_wp2_with fail
  go_ret
  exact ⟨rfl, HL.out⟩
theorem in_add_all {w0 : Fr} {w : World} {n d l0 l1 : Nat} {lv : Value} {S : InSt} {j : Nat} (h : InLive w0 w n d l0 l1 lv S) (hf : PFit j S) (hj : j ≤ 1000) (x : InR) (hk : Cl.In64 x.key) (hv : Cl.In64 x.val) :
    Calls Try.prog 15 #[ptr n 0, x.val'] w fun e w' => ∃ lv', e = .returned (.int .i64 (S.add x).1) ∧ InLive w0 w' n d l0 l1 lv' (S.add x).2 := by
  obtain ⟨b1, b2, b3, b4, b5⟩ := hf.bounds hj
  have he := ent_size S x
  by_cases hx : x.part < 0 ∨ 2 ≤ x.part
  · exact (inadd_arg h x hx).mono fun _ _ ⟨a, b⟩ => ⟨lv, a, b⟩
  · by_cases hn : 500 ≤ S.rs.length
    · exact (inadd_full h x hx hn).mono fun _ _ ⟨a, b⟩ => ⟨lv, a, b⟩
    · obtain ⟨p, k, v⟩ := x
      have hx2 : p = 0 ∨ p = 1 := by
        have hx : ¬ (p < 0 ∨ 2 ≤ p) := hx
        omega
      rcases hx2 with rfl | rfl
      · exact inadd_0 h k v hk hv (by omega) (by omega) b1 b2
      · exact inadd_1 h k v hk hv (by omega) (by omega) b1 b3
theorem is_add1 {d r n l0 l1 m q0 q1 : Nat} {lv sv mv : Value} {S : InSt} {f : Fr} {w : World} {j : Nat} (h : Inputs d r n l0 l1 m q0 q1 lv sv mv S f w) (hf : PFit j S) (hj : j ≤ 1000) (x : InR) (hk : Cl.In64 x.key) (hv : Cl.In64 x.val) :
    Calls Try.prog 15 #[ptr n 0, x.val'] w fun e w' => ∃ lv', e = .returned (.int .i64 (S.add x).1) ∧ Two2 (fun f w => InLive f w n d l0 l1 lv' (S.add x).2) (fun f w => RInLive f w m r q0 q1 sv mv S) f w' := by
  obtain ⟨f1, h1, h2⟩ := Two2.left h
  exact (in_add_all h1 hf hj x hk hv).mono fun e w' ⟨lv', he, h3⟩ => ⟨lv', he, h2 _ w' (owns_in _ _ _ _ _ _) h3⟩
theorem is_add2 {d r n l0 l1 m q0 q1 : Nat} {lv sv mv : Value} {S S' : InSt} {f : Fr} {w : World} {j : Nat} (h : Two2 (fun f w => InLive f w n d l0 l1 lv S') (fun f w => RInLive f w m r q0 q1 sv mv S) f w) (hf : PFit j S) (hj : j ≤ 1000) (x : InR) (hk : Cl.In64 x.key) (hv : Cl.In64 x.val) :
    Calls Try.prog 29 #[ptr m 0, x.val'] w fun e w' => ∃ mv', e = .returned (.int .i64 (S.add x).1) ∧ Two2 (fun f w => InLive f w n d l0 l1 lv S') (fun f w => RInLive f w m r q0 q1 sv mv' (S.add x).2) f w' := by
  obtain ⟨f1, h1, h2⟩ := Two2.right h
  obtain ⟨b1, b2, b3, b4, b5⟩ := hf.bounds hj
  exact (rin_add h1 x hk hv b1 b4 b5).mono fun e w' ⟨mv', he, h3⟩ => ⟨mv', he, h2 _ w' (owns_rin _ _ _ _ _ _ _) h3⟩

/-! What the loads find, and calls that leave all as it is. -/
theorem Disks.quiet {d r : Nat} {D : Dk.St} {f : Fr} {w : World} (h : Disks d r D f w) :
    (Calls Try.prog 25 #[ptr d 0] w fun e w' => e = .returned (.int .i64 (D.loose.length : Int)) ∧ w' = w) ∧
    (Calls Try.prog 26 #[ptr d 0] w fun e w' => e = .returned (.bool (!D.off)) ∧ w' = w) ∧
    (∃ la lc, w.cell? ⟨r, 33, none⟩ = some (.slice la D.loose.length lc)) ∧ w.cell? ⟨r, 34, none⟩ = some (.bool D.off) ∧ Dk.Ok D ∧ r < w.heap.size := by
  obtain ⟨F, h1, -, -⟩ := Two2.fst h
  obtain ⟨G, h2, -, -⟩ := Two2.snd h
  obtain ⟨lv, hc, hl, -⟩ := h2.cells
  obtain ⟨c33, c34, -⟩ := diskC_rest h2.ok lv
  obtain ⟨la, lc, rfl⟩ := (Reads.own hl).shape
  exact ⟨(loose_any w d D F h1).mono fun _ _ ⟨a, b⟩ => ⟨a, b.symm⟩, (on_any w d D F h1).mono fun _ _ ⟨a, b⟩ => ⟨a, b.symm⟩, ⟨la, lc, cells_at hc 33 _ c33⟩, cells_at hc 34 _ c34, h1.ok, h2.lt r h2.mem⟩

end Go.Proofs.Ytllecjhfbojgcaa
