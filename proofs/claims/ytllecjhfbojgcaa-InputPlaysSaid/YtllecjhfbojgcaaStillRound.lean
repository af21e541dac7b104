/-
  A region that draws its order inside a round of a loop over a function. Some operations yield the same in each world of a class, whatever comes between them; what is behind them goes in order.
-/
import Derived.Test.YtllecjhfbojgcaaLib
import Derived.StillTail
import Derived.OwnWalkIn
import Derived.RangeFuncCalls
namespace Go.Proofs.Ytllecjhfbojgcaa
open Go.RowKit
set_option maxRecDepth 20000

/-- No operation puts off a call. -/
def noDefer (ops : Array Oper) : Bool := ops.all fun o => match o.op with | .defer _ => false | _ => true

theorem noDefer_spec {ops : Array Oper} (h : noDefer ops = true) {i : Nat} {o : Oper} (hi : ops[i]? = some o) : ∀ c, o.op ≠ .defer c := by
  intro c hc
  have h1 := Array.all_eq_true_iff_forall_mem.1 h o (Array.mem_of_getElem? hi)
  rw [hc] at h1
  cases h1

theorem callsIn_round {n l₀ : Nat} {P : Program} {f : FuncId} {args : Array Value} {w : World} {R : Ending → World → Prop} (h : Calls P f args w R) : CallsIn (Fence.wide.inRound l₀) n P f args w R :=
  CallsIn.inRound l₀ (callsIn_wide.2 h)

/-- An operation that is carried out in the plain walk is in a round. -/
theorem wpIn_of_plain {n l₀ : Nat} {P : Program} {o : Oper} {a : Act} {w : World} {K : Act → World → Prop} {Q : Exit → Act → World → Prop} (hnd : ∀ c, o.op ≠ .defer c) (h : o.wp P a w K Q) : o.wpIn (Fence.wide.inRound l₀) n P a w K Q := by
  unfold Oper.wp at h
  unfold Oper.wpIn
  refine ⟨fun _ _ => trivial, ?_⟩
  rw [Oper.semAt_plain _ _ _ hnd]
  generalize (execOp a.eval o).run P w = r at *
  cases r with
  | ok x w' =>
    cases x <;> simp only [Oper.upon] at h <;> simp only [Oper.uponIn]
    case enter f args => exact ⟨fun hd => (by cases hd), callsIn_round (h.mono fun e w'' he => by cases e <;> exact he)⟩
    case row row args => exact ⟨fun hd => (by cases hd), fun c cs _ => let ⟨v, w', r, s⟩ := h c cs; ⟨v, w', r, stepsIn_wide.2 s⟩⟩
    all_goals first | exact h | exact h.elim
  | halt x w' => cases x <;> simp only [Oper.upon] at h <;> simp only [Oper.uponIn] <;> first | exact h | exact h.elim

section
variable {n l₀ : Nat} {P : Program} {ops : Array Oper} {Q : Exit → Act → World → Prop}

/-- All orders; each world on the way is of the class, each operation on the way one of the first m. -/
def anyC (n l₀ : Nat) (P : Program) (ops : Array Oper) (Q : Exit → Act → World → Prop) (C : World → Prop) (m : Nat) (L : Array Bool → Act → World → Prop) : Nat → Array Bool → Act → World → Prop
  | 0, listed, a, w => C w ∧ L listed a w
  | f + 1, listed, a, w => C w ∧ Region.ready .any ops listed ≠ [] ∧ ∀ i ∈ Region.ready .any ops listed, i < m ∧ wpOpIn (Fence.wide.inRound l₀) n P ops Q i (anyC n l₀ P ops Q C m L f (listed.setIfInBounds i true)) a w

theorem anyC_here {C : World → Prop} {m : Nat} {L : Array Bool → Act → World → Prop} {f : Nat} {listed : Array Bool} {a : Act} {w : World} (h : anyC n l₀ P ops Q C m L f listed a w) : C w := by
  cases f with
  | zero => exact h.1
  | succ f => exact h.1

theorem wpAnyIn_of_anyC {C : World → Prop} {m g : Nat} {L : Array Bool → Act → World → Prop} (hL : ∀ listed a w, L listed a w → wpAnyIn (Fence.wide.inRound l₀) n P .any ops Q g listed a w) :
    ∀ (f : Nat) (listed : Array Bool) (a : Act) (w : World), anyC n l₀ P ops Q C m L f listed a w → wpAnyIn (Fence.wide.inRound l₀) n P .any ops Q (f + g) listed a w := by
  intro f
  induction f with
  | zero => intro listed a w h; rw [Nat.zero_add]; exact hL _ _ _ h.2
  | succ f ih =>
    intro listed a w h
    rw [Nat.add_right_comm]
    exact ⟨fun h0 => absurd h0 h.2.1, fun i hi => wpOpIn_mono (fun a' w' h' => ih _ a' w' h') (h.2.2 i hi).2⟩

theorem anyC_inner {C1 C2 : World → Prop} {m1 m2 g : Nat} {L1 L2 : Array Bool → Act → World → Prop} (hC : ∀ w, C1 w → C2 w) (hm : m1 ≤ m2) (hL : ∀ listed a w, L1 listed a w → anyC n l₀ P ops Q C2 m2 L2 g listed a w) :
    ∀ (f : Nat) (listed : Array Bool) (a : Act) (w : World), anyC n l₀ P ops Q C1 m1 L1 f listed a w → anyC n l₀ P ops Q C2 m2 L2 (f + g) listed a w := by
  intro f
  induction f with
  | zero => intro listed a w h; rw [Nat.zero_add]; exact hL _ _ _ h.2
  | succ f ih =>
    intro listed a w h
    rw [Nat.add_right_comm]
    exact ⟨hC _ h.1, h.2.1, fun i hi => ⟨Nat.lt_of_lt_of_le (h.2.2 i hi).1 hm, wpOpIn_mono (fun a' w' h' => ih _ a' w' h') (h.2.2 i hi).2⟩⟩

theorem yields_wpOpIn {i : Nat} {o : Oper} {v : Value} {a : Act} {w : World} {K : Act → World → Prop} (hnd : noDefer ops = true) (hi : ops[i]? = some o) (hy : YieldsAt P ops w o v a) (h : K (a.put o.dst v) w) : wpOpIn (Fence.wide.inRound l₀) n P ops Q i K a w := by
  unfold wpOpIn
  simp only [hi]
  rcases hy with ⟨hw, hv⟩ | ⟨hw, rfl⟩
  · rw [if_pos hw]
    refine wpIn_of_plain (noDefer_spec hnd hi) ?_
    unfold Oper.wp
    rcases hv with hv | ⟨hv, rfl⟩ | ⟨f, args, hv, hc⟩
    · rw [hv]; exact h
    · rw [hv]; exact h
    · rw [hv]
      exact hc.mono fun e w' he => by obtain ⟨rfl, rfl⟩ := he; exact h
  · rw [if_neg (by rw [hw]; decide)]
    exact ⟨fun _ _ => trivial, h⟩

/-- Operation i, which yields v in each world of the class, goes past operation j. -/
theorem wpOpIn_past {C : World → Prop} {j : Nat} {oi oj : Oper} {v : Value} (hnd : noDefer ops = true) (hj : ops[j]? = some oj) (hap : oi.apart ops oj = true) (hsi : ∀ cs b, oi.op ≠ .select cs b) (hsj : ∀ cs b, oj.op ≠ .select cs b)
    (hQ : ∀ c a w, Q (.panic c) (a.put oi.dst v) w → Q (.panic c) a w) {K : Act → World → Prop} {a : Act} {w : World}
    (hy : ∀ W, C W → YieldsAt P ops W oi v a) (h : wpOpIn (Fence.wide.inRound l₀) n P ops Q j K (a.put oi.dst v) w) :
    wpOpIn (Fence.wide.inRound l₀) n P ops Q j (fun a' w' => (∀ W, C W → YieldsAt P ops W oi v a') ∧ K (a'.put oi.dst v) w') a w := by
  obtain ⟨h1, h2, h3⟩ := Oper.apart_spec hap
  have hkeep : ∀ b : Act, (∀ W, C W → YieldsAt P ops W oi v b) → ∀ u, ∀ W, C W → YieldsAt P ops W oi v (b.put oj.dst u) := fun b hb u W hW =>
    (hb W hW).of_same (execOp_put oi hsi b oj.dst u h3) (wanted_put oi b oj.dst u h3)
  have hone : ∀ u w', K ((a.put oi.dst v).put oj.dst u) w' → (∀ W, C W → YieldsAt P ops W oi v (a.put oj.dst u)) ∧ K ((a.put oj.dst u).put oi.dst v) w' := fun u w' hk => by
    rw [Act.put_comm a v u h2] at hk
    exact ⟨hkeep a hy u, hk⟩
  unfold wpOpIn at h ⊢
  simp only [hj] at h ⊢
  rw [wanted_put oj a oi.dst v h1] at h
  by_cases hw : Region.wanted oj (yielded ops a.tmps) = true
  · rw [if_pos hw] at h ⊢
    unfold Oper.wpIn at *
    refine ⟨fun _ _ => trivial, ?_⟩
    have h := h.2
    rw [Oper.semAt_plain _ _ _ (noDefer_spec hnd hj), execOp_put oj hsj a oi.dst v h1] at h
    rw [Oper.semAt_plain _ _ _ (noDefer_spec hnd hj)]
    generalize (execOp a.eval oj).run P w = r at *
    cases r with
    | halt x w' =>
      cases x <;> simp only [Oper.uponIn] at h ⊢
      exact hQ _ _ _ h
    | ok x w' =>
      cases x <;> simp only [Oper.uponIn] at h ⊢
      case value u => exact hone u w' h
      case skip => exact hone _ w' h
      case defer d =>
        refine ⟨hkeep { a with defers := d :: a.defers } (fun W hW => (hy W hW).of_same rfl rfl) _, ?_⟩
        rw [← Act.put_comm _ v undef h2, ← Act.put_defers]
        exact h
      case enter f args => exact ⟨h.1, h.2.mono fun e w'' he => by
        cases e with
        | returned u => exact hone u w'' he
        | panicked c => exact hQ _ _ _ he
        | outgrown => exact he⟩
      case row row args => exact ⟨h.1, h.2.mono fun u w'' he => hone u w'' he⟩
      case round l f tmps assign body => exact ⟨h.1, h.2.mono fun e w'' he => by
        cases e with
        | returned u => exact hone u w'' he
        | panicked c => exact hQ _ _ _ he
        | outgrown => exact he⟩
  · rw [if_neg hw] at h ⊢
    exact ⟨fun _ _ => trivial, hone _ w h.2⟩

/-- The listed ones wait for listed ones alone. -/
def Shut (ops : Array Oper) (m : Nat) (listed : Array Bool) : Prop :=
  listed.size = ops.size ∧ (∀ j oj, ops[j]? = some oj → listed.getD j false = true → ∀ e ∈ oj.after, Region.binds .any e = true → listed.getD e.on false = true) ∧ ∀ t, m ≤ t → t < ops.size → listed.getD t true = false

theorem Shut.set {m i : Nat} {listed : Array Bool} (h : Shut ops m listed) (hi : i ∈ Region.ready .any ops listed) (him : i < m) : Shut ops m (listed.setIfInBounds i true) := by
  obtain ⟨h1, h2, h3⟩ := h
  obtain ⟨-, oi, hoi, hall⟩ := mem_ready.1 hi
  refine ⟨by simp [h1], fun j oj hj hl e he hb => getD_set_true ?_, fun t ht hts => by rw [getD_set_ne true (by omega)]; exact h3 t ht hts⟩
  by_cases hij : i = j
  · subst hij
    rw [hoi] at hj
    cases hj
    exact hall e he hb
  · rw [getD_set_ne false hij] at hl
    exact h2 j oj hj hl e he hb

/-- Each of b, .., m - 1 is waited for by a later one up to m; each behind m waits for the one ahead of it. -/
def lateB (ops : Array Oper) (b m : Nat) : Bool :=
  ((List.range m).all fun i => decide (i < b) || (List.range (m + 1)).any fun j => decide (i < j) && Region.waitsFor .any ops j i) && Region.chainB .any ops m

theorem late {b m : Nat} {listed : Array Bool} (hB : lateB ops b m = true) (hm : m < ops.size) (hs : Shut ops m listed) :
    ∀ (d i : Nat), m - i = d → b ≤ i → i < m → listed.getD i true = false → ∀ t, m ≤ t → t ∉ Region.ready .any ops listed := by
  obtain ⟨h1, h2, h3⟩ := hs
  have hB2 := Bool.and_eq_true_iff.1 hB
  have hoff : ∀ i, listed.getD i true = false → listed.getD i false = true → False := fun i h h' => by
    rw [getD_both h] at h'
    cases h'
  intro d
  induction d using Nat.strongRecOn with
  | _ d ih =>
    intro i hd hbi him hun t hmt hr
    obtain ⟨-, ot, hot, hall⟩ := mem_ready.1 hr
    have htl : t < ops.size := (Array.getElem?_eq_some_iff.1 hot).1
    by_cases htm : t = m
    · subst htm
      have hx := List.all_eq_true.1 hB2.1 i (List.mem_range.2 him)
      rw [Bool.or_eq_true, decide_eq_true_eq] at hx
      rcases hx with hx | hx
      · omega
      obtain ⟨j, hj, hx⟩ := List.any_eq_true.1 hx
      rw [Bool.and_eq_true, decide_eq_true_eq] at hx
      obtain ⟨oj, hoj, e, he, hb, hon⟩ := Region.waitsFor_spec hx.2
      have hjr := List.mem_range.1 hj
      by_cases hjt : j = t
      · subst hjt
        rw [hot] at hoj
        cases hoj
        exact hoff i hun (hon ▸ hall e he hb)
      · cases hl : listed.getD j false with
        | true => exact hoff i hun (hon ▸ h2 j oj hoj hl e he hb)
        | false => exact ih (t - j) (by omega) j rfl (by omega) (by omega) (getD_in (by omega) hl) t (Nat.le_refl _) hr
    · have hx := List.all_eq_true.1 hB2.2 t (List.mem_range.2 htl)
      rw [Bool.or_eq_true, decide_eq_true_eq] at hx
      rcases hx with hx | hx
      · omega
      obtain ⟨o', ho', e, he, hb, hon⟩ := Region.waitsFor_spec hx
      rw [hot] at ho'
      cases ho'
      have := hall e he hb
      rw [hon] at this
      exact hoff _ (h3 (t - 1) (by omega) (by omega)) this

theorem anyC_take {C : World → Prop} {b m i : Nat} {oi : Oper} {v : Value} {L : Array Bool → Act → World → Prop} (hnd : noDefer ops = true) (hsel : Region.noSelect ops = true) (hlate : lateB ops b m = true) (hm : m < ops.size) (hbi : b ≤ i) (him : i < m) (hi : ops[i]? = some oi)
    (hQ : ∀ c a w, Q (.panic c) (a.put oi.dst v) w → Q (.panic c) a w) (hend : ∀ listed a w, L listed a w → ∀ j ∈ Region.ready .any ops listed, m ≤ j) :
    ∀ (f : Nat) (listed : Array Bool) (a : Act) (w : World), Shut ops m listed →
      (∀ j oj, ops[j]? = some oj → j ≠ i → listed.getD j true = false → (∀ e ∈ oj.after, Region.binds .any e = true → e.on ≠ i) → oi.apart ops oj = true) →
      i ∈ Region.ready .any ops listed → (∀ W, C W → YieldsAt P ops W oi v a) →
      anyC n l₀ P ops Q C m L f (listed.setIfInBounds i true) (a.put oi.dst v) w → anyC n l₀ P ops Q C m L (f + 1) listed a w := by
  intro f
  induction f with
  | zero =>
    intro listed a w hs hfree hr hy H
    have hun := (mem_ready.1 hr).1
    refine ⟨H.1, fun h => (by rw [h] at hr; cases hr), fun j hj => ?_⟩
    have hjm : j < m := by
      rcases Nat.lt_or_ge j m with h | h
      · exact h
      · exact absurd hj (late hlate hm hs _ i rfl hbi him hun j h)
    refine ⟨hjm, ?_⟩
    by_cases hji : j = i
    · subst hji
      exact yields_wpOpIn hnd hi (hy w H.1) H
    · have := hend _ _ _ H.2 j (ready_mono hj hji)
      omega
  | succ f ih =>
    intro listed a w hs hfree hr hy H
    have hun := (mem_ready.1 hr).1
    refine ⟨H.1, fun h => (by rw [h] at hr; cases hr), fun j hj => ?_⟩
    have hjm : j < m := by
      rcases Nat.lt_or_ge j m with h | h
      · exact h
      · exact absurd hj (late hlate hm hs _ i rfl hbi him hun j h)
    refine ⟨hjm, ?_⟩
    by_cases hji : j = i
    · subst hji
      exact yields_wpOpIn hnd hi (hy w H.1) H
    · have h1 := (H.2.2 j (ready_mono hj hji)).2
      obtain ⟨hjun, oj, hoj, hall⟩ := mem_ready.1 hj
      have hno : ∀ e ∈ oj.after, Region.binds .any e = true → e.on ≠ i := fun e he hb heq => by
        have h4 := hall e he hb
        rw [heq, getD_both hun] at h4
        cases h4
      refine wpOpIn_mono (fun a' w' h3 => ih (listed.setIfInBounds j true) a' w' (hs.set hj hjm) (fun k ok hk hki hku hkn => ?_) (ready_mono hr (Ne.symm hji)) h3.1 ?_)
        (wpOpIn_past hnd hoj (hfree j oj hoj hji hjun hno) (Region.noSelect_spec hsel i oi · · hi) (Region.noSelect_spec hsel j oj · · hoj) hQ hy h1)
      · refine hfree k ok hk hki ?_ hkn
        by_cases hjk : j = k
        · subst hjk; exact hjun
        · rw [getD_set_ne true hjk] at hku; exact hku
      · rw [Array.setIfInBounds_comm _ _ hji]
        exact h3.2

/-- The operations in the text's order, each yielding the same in all worlds of the class. -/
def wpYields (P : Program) (ops : Array Oper) (C : World → Prop) (K : Act → Prop) : List Oper → Act → Prop
  | [], a => K a
  | o :: rest, a => ∃ v, (∀ W, C W → YieldsAt P ops W o v a) ∧ wpYields P ops C K rest (a.put o.dst v)

theorem yields_nil {C : World → Prop} {K : Act → Prop} {a : Act} (h : K a) : wpYields P ops C K [] a := h
theorem yields_val {C : World → Prop} {K : Act → Prop} {o : Oper} {rest : List Oper} {a : Act} (v : Value) (hw : Region.wanted o (yielded ops a.tmps) = true) (h : ∀ W, C W → (execOp a.eval o).run P W = .ok (.value v) W) (hr : wpYields P ops C K rest (a.put o.dst v)) : wpYields P ops C K (o :: rest) a :=
  ⟨v, fun W hW => .inl ⟨hw, .inl (h W hW)⟩, hr⟩
theorem yields_call {C : World → Prop} {K : Act → Prop} {o : Oper} {rest : List Oper} {a : Act} (v : Value) (f : FuncId) (args : Array Value) (hw : Region.wanted o (yielded ops a.tmps) = true) (h : ∀ W, C W → (execOp a.eval o).run P W = .ok (.enter f args) W)
    (hc : ∀ W, C W → Calls P f args W fun e w' => e = .returned v ∧ w' = W) (hr : wpYields P ops C K rest (a.put o.dst v)) : wpYields P ops C K (o :: rest) a :=
  ⟨v, fun W hW => .inl ⟨hw, .inr (.inr ⟨f, args, h W hW, hc W hW⟩)⟩, hr⟩

theorem yields_step {C : World → Prop} {K : Act → Prop} {o : Oper} {rest : List Oper} {a : Act} (h : ∀ K' : Act → Prop, (∀ a, wpYields P ops C K rest a → K' a) → ∃ v, (∀ W, C W → YieldsAt P ops W o v a) ∧ K' (a.put o.dst v)) : wpYields P ops C K (o :: rest) a :=
  h _ (fun _ h => h)
theorem yields_at {C : World → Prop} {o : Oper} {a : Act} {v : Value} (hw : Region.wanted o (yielded ops a.tmps) = true) (h : ∀ W, C W → (execOp a.eval o).run P W = .ok (.value v) W) : ∀ W, C W → YieldsAt P ops W o v a := fun W hW => .inl ⟨hw, .inl (h W hW)⟩
theorem yields_by {C : World → Prop} {o : Oper} {a : Act} {v : Value} (f : FuncId) (args : Array Value) (hw : Region.wanted o (yielded ops a.tmps) = true) (h : ∀ W, C W → (execOp a.eval o).run P W = .ok (.enter f args) W ∧ Calls P f args W fun e w' => e = .returned v ∧ w' = W) : ∀ W, C W → YieldsAt P ops W o v a :=
  fun W hW => .inl ⟨hw, .inr (.inr ⟨f, args, (h W hW).1, (h W hW).2⟩)⟩
/-- One operation, its continuation hidden. -/
theorem wpIn_step {F : Fence} {K : Act → World → Prop} {o : Oper} {a : Act} {w : World} (h : ∀ K' : Act → World → Prop, (∀ a w, K a w → K' a w) → o.wpIn F n P a w K' Q) : o.wpIn F n P a w K Q := h _ (fun _ _ h => h)
theorem wpIn_step_plain {K : Act → World → Prop} {o : Oper} {a : Act} {w : World} (hnd : ∀ c, o.op ≠ .defer c) (hw : Region.wanted o (yielded ops a.tmps) = true) (h : ∀ K' : Act → World → Prop, (∀ a w, K a w → K' a w) → if Region.wanted o (yielded ops a.tmps) = true then Oper.wp P o a w K' Q else True) : o.wpIn (Fence.wide.inRound l₀) n P a w K Q :=
  wpIn_of_plain hnd (by have := h K (fun _ _ h => h); rwa [if_pos hw] at this)

/-- Those that may come up one by one, in the text's order, from k on, g of them. -/
def takeB (ops : Array Oper) : Nat → Nat → Array Bool → Bool
  | 0, _, _ => true
  | g + 1, k, listed => (Region.ready .any ops listed).contains k && Region.free .any ops listed k && takeB ops g (k + 1) (listed.setIfInBounds k true)
/-- What is listed behind g more from k on. -/
def putB : Nat → Nat → Array Bool → Array Bool
  | 0, _, listed => listed
  | g + 1, k, listed => putB g (k + 1) (listed.setIfInBounds k true)

theorem anyC_yields {C : World → Prop} {b m g : Nat} {L : Array Bool → Act → World → Prop} {K : Act → Prop} {w : World} (hnd : noDefer ops = true) (hsel : Region.noSelect ops = true) (hlate : lateB ops b m = true) (hm : m < ops.size)
    (hQ : ∀ (o : Oper) v c a w, Q (.panic c) (a.put o.dst v) w → Q (.panic c) a w) (hend : ∀ listed a w, L listed a w → ∀ j ∈ Region.ready .any ops listed, m ≤ j) :
    ∀ (l : List Oper) (k : Nat) (listed : Array Bool) (a : Act), (∀ j, j < l.length → l[j]? = ops[k + j]?) → b ≤ k → k + l.length ≤ m → Shut ops m listed → takeB ops l.length k listed = true →
      (∀ a', K a' → Shut ops m (putB l.length k listed) → anyC n l₀ P ops Q C m L g (putB l.length k listed) a' w) → wpYields P ops C K l a → anyC n l₀ P ops Q C m L (l.length + g) listed a w := by
  intro l
  induction l with
  | nil => intro k listed a _ _ _ hs _ hK h; rw [List.length_nil, Nat.zero_add]; exact hK a h hs
  | cons o l ih =>
    intro k listed a hl hbk hkm hs hB hK h
    have h0 : ops[k]? = some o := by simpa using (hl 0 (by simp)).symm
    simp only [List.length_cons, takeB, Bool.and_eq_true] at hB
    obtain ⟨⟨hr, hf⟩, hB'⟩ := hB
    have hr' : k ∈ Region.ready .any ops listed := by simpa using hr
    obtain ⟨v, hy, hrest⟩ := h
    rw [List.length_cons] at hkm
    rw [List.length_cons, Nat.add_right_comm]
    refine anyC_take hnd hsel hlate hm hbk (by omega) h0 (hQ o v) hend _ listed a w hs (Region.free_spec h0 hf) hr' hy ?_
    exact ih (k + 1) _ _ (fun j hj => by have := hl (j + 1) (by simp; omega); rwa [List.getElem?_cons_succ, show k + (j + 1) = k + 1 + j by omega] at this) (by omega) (by omega) (hs.set hr' (by omega)) hB' (fun a' ha' hs' => hK a' ha' hs') hrest

theorem wpAnyIn_of_tail {F : Fence} : ∀ (l : List Oper) (k : Nat) (listed : Array Bool) (a : Act) (w : World), (∀ j, l[j]? = ops[k + j]?) →
    Region.seqB .any ops l.length k listed = true → wpListIn F n P ops Q l a w → wpAnyIn F n P .any ops Q l.length listed a w := by
  intro l
  induction l with
  | nil => intro k listed a w _ hB h; exact ⟨List.isEmpty_iff.1 hB, h⟩
  | cons o l ih =>
    intro k listed a w hl hB h
    have h0 : ops[k]? = some o := by simpa using (hl 0).symm
    have hB2 := Bool.and_eq_true_iff.1 hB
    have hr : Region.ready .any ops listed = [k] := of_decide_eq_true hB2.1
    refine ⟨fun h1 => (by rw [hr] at h1; cases h1), fun i hi => ?_⟩
    rw [hr, List.mem_singleton] at hi
    subst hi
    have hw : wpOpIn F n P ops Q i (wpListIn F n P ops Q l) a w := by
      unfold wpOpIn
      rw [h0]
      exact h
    exact wpOpIn_mono (fun a' w' h' => ih (i + 1) _ a' w' (fun j => by have := hl (j + 1); rwa [List.getElem?_cons_succ, show i + (j + 1) = i + 1 + j by omega] at this) hB2.2 h') hw

theorem anyC_one {C : World → Prop} {m k f : Nat} {o : Oper} {L : Array Bool → Act → World → Prop} {listed : Array Bool} {a : Act} {w : World} (hr : Region.ready .any ops listed = [k]) (hk : k < m) (ho : ops[k]? = some o) (hg : o.guard = none) (hC : C w)
    (h : o.wpIn (Fence.wide.inRound l₀) n P a w (anyC n l₀ P ops Q C m L f (listed.setIfInBounds k true)) Q) : anyC n l₀ P ops Q C m L (f + 1) listed a w := by
  refine ⟨hC, by rw [hr]; simp, fun i hi => ?_⟩
  rw [hr, List.mem_singleton] at hi
  subst hi
  refine ⟨hk, ?_⟩
  unfold wpOpIn
  simp only [ho]
  rw [if_pos (by simp [Region.wanted, hg])]
  exact h

end

/-- What is asked of the region's text: p operations are stable in the wide class, up to k in the narrow one; k and k + 1 come next; then the rest. -/
def roundB (ops : Array Oper) (p k : Nat) : Bool :=
  noDefer ops && Region.noSelect ops && decide (p ≤ k) && decide (k + 2 < ops.size) && lateB ops 0 (k + 2) && lateB ops p (k + 1) && takeB ops p 0 (Array.replicate ops.size false) && takeB ops (k - p) p (putB p 0 (Array.replicate ops.size false)) &&
  Region.seqB .any ops (ops.size - k) k (putB (k - p) p (putB p 0 (Array.replicate ops.size false)))

theorem wpIn_region_round {n l₀ id : Nat} {P : Program} {Q : Exit → Act → World → Prop} {a : Act} {w : World} {l : List Oper} (p k : Nat) (C1 C2 : World → Prop) (o1 o2 : Oper) (hm : P.follows .mixedOrders = true) (hB : roundB l.toArray p k = true)
    (ho1 : l[k]? = some o1) (ho2 : l[k + 1]? = some o2) (hg1 : o1.guard = none) (hg2 : o2.guard = none) (hQ : ∀ (o : Oper) v c a w, Q (.panic c) (a.put o.dst v) w → Q (.panic c) a w) (h12 : ∀ W, C1 W → C2 W) (hC : C1 w.drew)
    (h : wpYields P l.toArray C2 (wpYields P l.toArray C1 (fun a1 => o1.wpIn (Fence.wide.inRound l₀) n P a1 w.drew (fun a2 W1 => C1 W1 ∧ o2.wpIn (Fence.wide.inRound l₀) n P a2 W1 (fun a3 W2 => C2 W2 ∧ wpListIn (Fence.wide.inRound l₀) n P l.toArray Q (l.drop (k + 2)) a3 W2) Q) Q) ((l.take k).drop p)) (l.take p) a) :
    (Code.region id l.toArray true).wpIn (Fence.wide.inRound l₀) n P Q a w := by
  unfold roundB at hB
  simp only [Bool.and_eq_true, decide_eq_true_eq] at hB
  obtain ⟨⟨⟨⟨⟨⟨⟨⟨hnd, hsel⟩, hpk⟩, hk2⟩, hlate2⟩, hlate1⟩, ht1⟩, ht2⟩, hseq⟩ := hB
  have hlen : k + 2 < l.length := by simpa using hk2
  refine wpIn_region_any hm ?_
  change wpAnyIn _ _ _ _ _ _ _ _ _ w.drew
  have hl1 : (l.take p).length = p := by simp; omega
  have hl2 : ((l.take k).drop p).length = k - p := by simp; omega
  obtain ⟨g, hg⟩ : ∃ g, l.toArray.size - k = g + 1 + 1 := ⟨l.length - k - 2, by simp; omega⟩
  rw [hg] at hseq
  simp only [Region.seqB, Bool.and_eq_true, decide_eq_true_eq] at hseq
  obtain ⟨hr1, hr2, hseq⟩ := hseq
  have hdl : (l.drop (k + 2)).length = g := by simp; simp at hg; omega
  obtain ⟨S0, hS0⟩ : ∃ S, Array.replicate l.toArray.size false = S := ⟨_, rfl⟩
  rw [hS0] at ht1 ht2 hr1 hr2 hseq
  have hshut : ∀ m, Shut l.toArray m S0 := fun m => by
    rw [← hS0]
    exact ⟨by simp, fun j oj _ hl => (by rw [getD_replicate_false] at hl; cases hl), fun t _ ht => getD_in (by simpa using ht) (getD_replicate_false _ _)⟩
  obtain ⟨S1, hS1⟩ : ∃ S, putB p 0 S0 = S := ⟨_, rfl⟩
  rw [hS1] at ht2 hr1 hr2 hseq
  obtain ⟨S2, hS2⟩ : ∃ S, putB (k - p) p S1 = S := ⟨_, rfl⟩
  rw [hS2] at hr1 hr2 hseq
  -- the outer leaf: all but the rest are listed
  let L2 : Array Bool → Act → World → Prop := fun listed a w => listed = (S2.setIfInBounds k true).setIfInBounds (k + 1) true ∧ wpListIn (Fence.wide.inRound l₀) n P l.toArray Q (l.drop (k + 2)) a w
  let L1 : Array Bool → Act → World → Prop := fun listed a w => listed = S2.setIfInBounds k true ∧ o2.wpIn (Fence.wide.inRound l₀) n P a w (fun a3 W2 => C2 W2 ∧ wpListIn (Fence.wide.inRound l₀) n P l.toArray Q (l.drop (k + 2)) a3 W2) Q ∧ C2 w
  have he2 : ∀ listed a w, L2 listed a w → ∀ j ∈ Region.ready .any l.toArray listed, k + 2 ≤ j := fun listed a w h => by
    rw [h.1]
    exact seqB_ready hseq
  have he1 : ∀ listed a w, L1 listed a w → ∀ j ∈ Region.ready .any l.toArray listed, k + 1 ≤ j := fun listed a w h j hj => by
    rw [h.1, hr2, List.mem_singleton] at hj
    omega
  have hleaf : ∀ listed a w, L2 listed a w → wpAnyIn (Fence.wide.inRound l₀) n P .any l.toArray Q g listed a w := fun listed a w h => by
    have := wpAnyIn_of_tail (n := n) (P := P) (Q := Q) (F := Fence.wide.inRound l₀) (ops := l.toArray) (l.drop (k + 2)) (k + 2) listed a w (fun j => by simp [List.getElem?_drop]) (by rw [hdl, h.1]; exact hseq) h.2
    rwa [hdl] at this
  have hmid : ∀ listed a w, L1 listed a w → anyC n l₀ P l.toArray Q C2 (k + 2) L2 1 listed a w := fun listed a w h => by
    obtain ⟨rfl, h2, h3⟩ := h
    refine anyC_one hr2 (by omega) (by simpa using ho2) hg2 h3 ?_
    exact Oper.wpIn_mono (fun a' w' h => ⟨h.1, rfl, h.2⟩) h2
  have hmain : anyC n l₀ P l.toArray Q C2 (k + 2) L2 (p + (k - p + 1 + 1)) S0 a w.drew := by
    have H := anyC_yields (n := n) (l₀ := l₀) (w := w.drew) (g := k - p + 1 + 1) hnd hsel hlate2 hk2 hQ he2 (l.take p) 0 S0 a (fun j hj => by rw [hl1] at hj; simp [hj]) (Nat.le_refl _) (by rw [hl1]; omega) (hshut _) (by rw [hl1]; exact ht1) (fun a1 h1 hs1 => ?_) h
    · rwa [hl1] at H
    · rw [hl1, hS1] at hs1 ⊢
      refine anyC_inner (C1 := C1) (m1 := k + 1) (L1 := L1) h12 (by omega) hmid (k - p + 1) S1 a1 w.drew ?_
      have hs1' : Shut l.toArray (k + 1) S1 := by
        refine ⟨hs1.1, hs1.2.1, fun t ht hts => ?_⟩
        by_cases htk : t = k + 1
        · subst htk
          have := mem_ready.1 (show k + 1 ∈ Region.ready .any l.toArray (S2.setIfInBounds k true) by rw [hr2]; simp)
          have h3 := this.1
          rw [getD_set_ne true (by omega)] at h3
          cases h4 : S1.getD (k + 1) true with
          | false => rfl
          | true =>
            exfalso
            have hput : ∀ (g k' : Nat) (S : Array Bool) (t : Nat), S.getD t true = true → (putB g k' S).getD t true = true := by
              intro g
              induction g with
              | zero => intro k' S t h; exact h
              | succ g ih =>
                intro k' S t h
                refine ih (k' + 1) _ t ?_
                by_cases hkt : k' = t
                · subst hkt
                  rcases Nat.lt_or_ge k' S.size with h' | h'
                  · simp [h']
                  · simp
                · rw [getD_set_ne true hkt]
                  exact h
            rw [← hS2, hput _ _ _ _ h4] at h3
            cases h3
        · exact hs1.2.2 t (by omega) hts
      have H := anyC_yields (n := n) (l₀ := l₀) (w := w.drew) (g := 1) hnd hsel hlate1 (by omega) hQ he1 ((l.take k).drop p) p S1 a1 (fun j hj => by
        rw [hl2] at hj
        simp [List.getElem?_drop, List.getElem?_take]
        omega) (Nat.le_refl _) (by rw [hl2]; omega) hs1' (by rw [hl2]; exact ht2) (fun a2 h2 hs2 => ?_) h1
      · rwa [hl2] at H
      · rw [hl2, hS2]
        refine anyC_one hr1 (by omega) (by simpa using ho1) hg1 hC ?_
        exact Oper.wpIn_mono (fun a' w' h => ⟨h.1, rfl, h.2, h12 _ h.1⟩) h2
  have := wpAnyIn_of_anyC (g := g) hleaf _ _ _ _ hmain
  rw [hS0]
  rwa [show p + (k - p + 1 + 1) + g = l.toArray.size by omega] at this

end Go.Proofs.Ytllecjhfbojgcaa
