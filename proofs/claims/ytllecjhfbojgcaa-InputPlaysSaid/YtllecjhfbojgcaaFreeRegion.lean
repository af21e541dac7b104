/-
  A region that draws its order: operations that yield the same in each world of a class are taken first; of the others each order is gone through; what is behind them all goes in the text's order.
-/
import Derived.Test.YtllecjhfbojgcaaStillRound
import Derived.Deep.AppendLies
namespace Go.Proofs.Ytllecjhfbojgcaa
open Go.RowKit
set_option maxRecDepth 20000

/-- Nothing but the normal way on. -/
def noQ : Exit → Act → World → Prop := fun _ _ _ => False
theorem wp_noQ {P : Program} {o : Oper} {a : Act} {w : World} {K : Act → World → Prop} {Q : Exit → Act → World → Prop} (h : o.wp P a w K noQ) : o.wp P a w K Q := by
  unfold Oper.wp at *
  generalize (execOp a.eval o).run P w = r at *
  cases r with
  | ok n w' =>
    cases n <;> simp only [Oper.upon] at h ⊢ <;> try exact h
    refine h.mono (fun e w'' he => ?_)
    cases e with
    | returned u => exact he
    | panicked c => exact he.elim
    | outgrown => obtain ⟨_, _, h⟩ := he; exact h.elim
  | halt x w' =>
    cases x <;> simp only [Oper.upon] at h ⊢
    exact h.elim

section
variable {P : Program} {ops : Array Oper} {Q : Exit → Act → World → Prop}

def opP (P : Program) (ops : Array Oper) (i : Nat) (K : Act → World → Prop) (a : Act) (w : World) : Prop :=
  match ops[i]? with
  | none => K a w
  | some o => if Region.wanted o (yielded ops a.tmps) then o.wp P a w K noQ else K (a.put o.dst undef) w

theorem opP_mono {i : Nat} {a : Act} {w : World} {K K' : Act → World → Prop} (h : ∀ a w, K a w → K' a w) (hh : opP P ops i K a w) : opP P ops i K' a w := by
  unfold opP at *
  split
  · exact h _ _ (by simpa [*] using hh)
  · rename_i o ho
    simp only [ho] at hh
    split
    · rename_i hw; rw [if_pos hw] at hh; exact Oper.wp_mono h hh
    · rename_i hw; rw [if_neg hw] at hh; exact h _ _ hh

theorem opP_wpOp {i : Nat} {a : Act} {w : World} {K : Act → World → Prop} (hh : opP P ops i K a w) : wpOp P ops Q i K a w := by
  unfold opP at hh
  unfold wpOp
  split
  · rename_i ho; simp only [ho] at hh; exact hh
  · rename_i o ho
    simp only [ho] at hh
    split
    · rename_i hw; rw [if_pos hw] at hh; exact .inl (wp_noQ hh)
    · rename_i hw; rw [if_neg hw] at hh; exact hh

/-- All orders; each world on the way is of the class, each operation on the way one of the first m. -/
def anyP (P : Program) (ops : Array Oper) (C : World → Prop) (m : Nat) (L : Array Bool → Act → World → Prop) : Nat → Array Bool → Act → World → Prop
  | 0, listed, a, w => C w ∧ L listed a w
  | f + 1, listed, a, w => C w ∧ Region.ready .any ops listed ≠ [] ∧ ∀ i ∈ Region.ready .any ops listed, i < m ∧ opP P ops i (anyP P ops C m L f (listed.setIfInBounds i true)) a w

theorem wpAny_of_anyP {C : World → Prop} {m g : Nat} {L : Array Bool → Act → World → Prop} (hL : ∀ listed a w, L listed a w → wpAny P .any ops Q g listed a w) :
    ∀ (f : Nat) (listed : Array Bool) (a : Act) (w : World), anyP P ops C m L f listed a w → wpAny P .any ops Q (f + g) listed a w := by
  intro f
  induction f with
  | zero => intro listed a w h; rw [Nat.zero_add]; exact hL _ _ _ h.2
  | succ f ih =>
    intro listed a w h
    rw [Nat.add_right_comm]
    exact ⟨fun h0 => absurd h0 h.2.1, fun i hi => wpOp_mono (fun a' w' h' => ih _ a' w' h') (opP_wpOp (h.2.2 i hi).2)⟩

theorem yields_opP {i : Nat} {o : Oper} {v : Value} {a : Act} {w : World} {K : Act → World → Prop} (hi : ops[i]? = some o) (hy : YieldsAt P ops w o v a) (h : K (a.put o.dst v) w) : opP P ops i K a w := by
  unfold opP
  simp only [hi]
  rcases hy with ⟨hw, hv⟩ | ⟨hw, rfl⟩
  · rw [if_pos hw]
    unfold Oper.wp
    rcases hv with hv | ⟨hv, rfl⟩ | ⟨f, args, hv, hc⟩
    · rw [hv]; exact h
    · rw [hv]; exact h
    · rw [hv]
      exact hc.mono fun e w' he => by obtain ⟨rfl, rfl⟩ := he; exact h
  · rw [if_neg (by rw [hw]; decide)]
    exact h

/-- Operation i, which yields v in each world of the class, goes past operation j. -/
theorem opP_past {C : World → Prop} {j : Nat} {oi oj : Oper} {v : Value} (hj : ops[j]? = some oj) (hap : oi.apart ops oj = true) (hsi : ∀ cs b, oi.op ≠ .select cs b) (hsj : ∀ cs b, oj.op ≠ .select cs b)
    {K : Act → World → Prop} {a : Act} {w : World}
    (hy : ∀ W, C W → YieldsAt P ops W oi v a) (h : opP P ops j K (a.put oi.dst v) w) :
    opP P ops j (fun a' w' => (∀ W, C W → YieldsAt P ops W oi v a') ∧ K (a'.put oi.dst v) w') a w := by
  obtain ⟨h1, h2, h3⟩ := Oper.apart_spec hap
  have hkeep : ∀ b : Act, (∀ W, C W → YieldsAt P ops W oi v b) → ∀ u, ∀ W, C W → YieldsAt P ops W oi v (b.put oj.dst u) := fun b hb u W hW =>
    (hb W hW).of_same (execOp_put oi hsi b oj.dst u h3) (wanted_put oi b oj.dst u h3)
  have hone : ∀ u w', K ((a.put oi.dst v).put oj.dst u) w' → (∀ W, C W → YieldsAt P ops W oi v (a.put oj.dst u)) ∧ K ((a.put oj.dst u).put oi.dst v) w' := fun u w' hk => by
    rw [Act.put_comm a v u h2] at hk
    exact ⟨hkeep a hy u, hk⟩
  unfold opP at h ⊢
  simp only [hj] at h ⊢
  rw [wanted_put oj a oi.dst v h1] at h
  by_cases hw : Region.wanted oj (yielded ops a.tmps) = true
  · rw [if_pos hw] at h ⊢
    unfold Oper.wp at *
    rw [execOp_put oj hsj a oi.dst v h1] at h
    generalize (execOp a.eval oj).run P w = r at *
    cases r with
    | halt x w' =>
      cases x <;> simp only [Oper.upon] at h ⊢
      exact h
    | ok x w' =>
      cases x <;> simp only [Oper.upon] at h ⊢
      case value u => exact hone u w' h
      case skip => exact hone _ w' h
      case defer d =>
        refine ⟨hkeep { a with defers := d :: a.defers } (fun W hW => (hy W hW).of_same rfl rfl) _, ?_⟩
        rw [← Act.put_comm _ v undef h2, ← Act.put_defers]
        exact h
      case enter f args =>
        refine h.mono (fun e w'' he => ?_)
        cases e with
        | returned u => exact hone u w'' he
        | panicked c => exact he
        | outgrown => obtain ⟨_, _, h⟩ := he; exact h.elim
      case row row args => exact h.mono fun u w'' he => hone u w'' he
  · rw [if_neg hw] at h ⊢
    exact hone _ w h

theorem anyP_take {C : World → Prop} {m i : Nat} {oi : Oper} {v : Value} {L : Array Bool → Act → World → Prop} (hsel : Region.noSelect ops = true) (hlate : lateB ops 0 m = true) (hm : m < ops.size) (him : i < m) (hi : ops[i]? = some oi)
    (hend : ∀ listed a w, L listed a w → ∀ j ∈ Region.ready .any ops listed, m ≤ j) :
    ∀ (f : Nat) (listed : Array Bool) (a : Act) (w : World), Shut ops m listed →
      (∀ j oj, ops[j]? = some oj → j ≠ i → listed.getD j true = false → (∀ e ∈ oj.after, Region.binds .any e = true → e.on ≠ i) → oi.apart ops oj = true) →
      i ∈ Region.ready .any ops listed → (∀ W, C W → YieldsAt P ops W oi v a) →
      anyP P ops C m L f (listed.setIfInBounds i true) (a.put oi.dst v) w → anyP P ops C m L (f + 1) listed a w := by
  intro f
  induction f with
  | zero =>
    intro listed a w hs hfree hr hy H
    have hun := (mem_ready.1 hr).1
    refine ⟨H.1, fun h => (by rw [h] at hr; cases hr), fun j hj => ?_⟩
    have hjm : j < m := by
      rcases Nat.lt_or_ge j m with h | h
      · exact h
      · exact absurd hj (late hlate hm hs _ i rfl (Nat.zero_le _) him hun j h)
    refine ⟨hjm, ?_⟩
    by_cases hji : j = i
    · subst hji
      exact yields_opP hi (hy w H.1) H
    · have := hend _ _ _ H.2 j (ready_mono hj hji)
      omega
  | succ f ih =>
    intro listed a w hs hfree hr hy H
    have hun := (mem_ready.1 hr).1
    refine ⟨H.1, fun h => (by rw [h] at hr; cases hr), fun j hj => ?_⟩
    have hjm : j < m := by
      rcases Nat.lt_or_ge j m with h | h
      · exact h
      · exact absurd hj (late hlate hm hs _ i rfl (Nat.zero_le _) him hun j h)
    refine ⟨hjm, ?_⟩
    by_cases hji : j = i
    · subst hji
      exact yields_opP hi (hy w H.1) H
    · have h1 := (H.2.2 j (ready_mono hj hji)).2
      obtain ⟨hjun, oj, hoj, hall⟩ := mem_ready.1 hj
      have hno : ∀ e ∈ oj.after, Region.binds .any e = true → e.on ≠ i := fun e he hb heq => by
        have h4 := hall e he hb
        rw [heq, getD_both hun] at h4
        cases h4
      refine opP_mono (fun a' w' h3 => ih (listed.setIfInBounds j true) a' w' (hs.set hj hjm) (fun k ok hk hki hku hkn => ?_) (ready_mono hr (Ne.symm hji)) h3.1 ?_)
        (opP_past hoj (hfree j oj hoj hji hjun hno) (Region.noSelect_spec hsel i oi · · hi) (Region.noSelect_spec hsel j oj · · hoj) hy h1)
      · refine hfree k ok hk hki ?_ hkn
        by_cases hjk : j = k
        · subst hjk; exact hjun
        · rw [getD_set_ne true hjk] at hku; exact hku
      · rw [Array.setIfInBounds_comm _ _ hji]
        exact h3.2

/-- Those that may come up one by one. -/
def freeIds (ops : Array Oper) : List Nat → Array Bool → Bool
  | [], _ => true
  | k :: ks, listed => (Region.ready .any ops listed).contains k && Region.free .any ops listed k && freeIds ops ks (listed.setIfInBounds k true)
def putIds : List Nat → Array Bool → Array Bool
  | [], listed => listed
  | k :: ks, listed => putIds ks (listed.setIfInBounds k true)
def pick (ops : Array Oper) : List Nat → List Oper
  | [] => []
  | k :: ks => match ops[k]? with
    | some o => o :: pick ops ks
    | none => pick ops ks

theorem anyP_yields {C : World → Prop} {m g : Nat} {L : Array Bool → Act → World → Prop} {w : World} (hsel : Region.noSelect ops = true) (hlate : lateB ops 0 m = true) (hm : m < ops.size)
    (hend : ∀ listed a w, L listed a w → ∀ j ∈ Region.ready .any ops listed, m ≤ j) :
    ∀ (ids : List Nat) (listed : Array Bool) (a : Act), (∀ k ∈ ids, k < m) → Shut ops m listed → freeIds ops ids listed = true →
      wpYields P ops C (fun a' => anyP P ops C m L g (putIds ids listed) a' w) (pick ops ids) a → anyP P ops C m L (ids.length + g) listed a w := by
  intro ids
  induction ids with
  | nil => intro listed a _ _ _ h; rw [List.length_nil, Nat.zero_add]; exact h
  | cons k ids ih =>
    intro listed a hids hs hB h
    simp only [freeIds, Bool.and_eq_true] at hB
    obtain ⟨⟨hr, hf⟩, hB'⟩ := hB
    have hkm := hids k (by simp)
    have hr' : k ∈ Region.ready .any ops listed := by simpa using hr
    obtain ⟨o, h0⟩ : ∃ o, ops[k]? = some o := ⟨_, Array.getElem?_eq_getElem (show k < ops.size by omega)⟩
    unfold pick at h
    rw [h0] at h
    obtain ⟨v, hy, hrest⟩ := h
    rw [List.length_cons, Nat.add_right_comm]
    refine anyP_take hsel hlate hm hkm h0 hend _ listed a w hs (Region.free_spec h0 hf) hr' hy ?_
    exact ih _ _ (fun j hj => hids j (by simp [hj])) (hs.set hr' hkm) hB' hrest

theorem anyP_one {C : World → Prop} {m k f : Nat} {o : Oper} {L : Array Bool → Act → World → Prop} {listed : Array Bool} {a : Act} {w : World} (hr : Region.ready .any ops listed = [k]) (hk : k < m) (ho : ops[k]? = some o) (hg : o.guard = none) (hC : C w)
    (h : o.wp P a w (anyP P ops C m L f (listed.setIfInBounds k true)) noQ) : anyP P ops C m L (f + 1) listed a w := by
  refine ⟨hC, by rw [hr]; simp, fun i hi => ?_⟩
  rw [hr, List.mem_singleton] at hi
  subst hi
  refine ⟨hk, ?_⟩
  unfold opP
  simp only [ho]
  rw [if_pos (by simp [Region.wanted, hg])]
  exact h
theorem anyP_one_w {C : World → Prop} {m k f : Nat} {o : Oper} {L : Array Bool → Act → World → Prop} {listed : Array Bool} {a : Act} {w : World} (hr : Region.ready .any ops listed = [k]) (hk : k < m) (ho : ops[k]? = some o) (hw : Region.wanted o (yielded ops a.tmps) = true) (hC : C w)
    (h : ∀ K' : Act → World → Prop, (∀ a w, anyP P ops C m L f (listed.setIfInBounds k true) a w → K' a w) → if Region.wanted o (yielded ops a.tmps) = true then o.wp P a w K' noQ else True) : anyP P ops C m L (f + 1) listed a w := by
  refine ⟨hC, by rw [hr]; simp, fun i hi => ?_⟩
  rw [hr, List.mem_singleton] at hi
  subst hi
  refine ⟨hk, ?_⟩
  unfold opP
  simp only [ho]
  rw [if_pos hw]
  have := h _ (fun _ _ h => h)
  rwa [if_pos hw] at this
theorem anyP_two {C : World → Prop} {m k k' f : Nat} {o o' : Oper} {L : Array Bool → Act → World → Prop} {listed : Array Bool} {a : Act} {w : World} (hr : Region.ready .any ops listed = [k, k']) (hk : k < m) (hk' : k' < m) (ho : ops[k]? = some o) (ho' : ops[k']? = some o') (hg : o.guard = none) (hg' : o'.guard = none) (hC : C w)
    (h : o.wp P a w (anyP P ops C m L f (listed.setIfInBounds k true)) noQ) (h' : o'.wp P a w (anyP P ops C m L f (listed.setIfInBounds k' true)) noQ) : anyP P ops C m L (f + 1) listed a w := by
  refine ⟨hC, by rw [hr]; simp, fun i hi => ?_⟩
  rw [hr, List.mem_cons, List.mem_singleton] at hi
  rcases hi with rfl | rfl
  · refine ⟨hk, ?_⟩
    unfold opP
    simp only [ho]
    rw [if_pos (by simp [Region.wanted, hg])]
    exact h
  · refine ⟨hk', ?_⟩
    unfold opP
    simp only [ho']
    rw [if_pos (by simp [Region.wanted, hg'])]
    exact h'
theorem anyP_three {C : World → Prop} {m k k' k'' f : Nat} {o o' o'' : Oper} {L : Array Bool → Act → World → Prop} {listed : Array Bool} {a : Act} {w : World} (hr : Region.ready .any ops listed = [k, k', k'']) (hk : k < m) (hk' : k' < m) (hk'' : k'' < m) (ho : ops[k]? = some o) (ho' : ops[k']? = some o') (ho'' : ops[k'']? = some o'') (hg : o.guard = none) (hg' : o'.guard = none) (hg'' : o''.guard = none) (hC : C w)
    (h : o.wp P a w (anyP P ops C m L f (listed.setIfInBounds k true)) noQ) (h' : o'.wp P a w (anyP P ops C m L f (listed.setIfInBounds k' true)) noQ) (h'' : o''.wp P a w (anyP P ops C m L f (listed.setIfInBounds k'' true)) noQ) : anyP P ops C m L (f + 1) listed a w := by
  refine ⟨hC, by rw [hr]; simp, fun i hi => ?_⟩
  rw [hr, List.mem_cons, List.mem_cons, List.mem_singleton] at hi
  rcases hi with rfl | rfl | rfl
  · refine ⟨hk, ?_⟩
    unfold opP
    simp only [ho]
    rw [if_pos (by simp [Region.wanted, hg])]
    exact h
  · refine ⟨hk', ?_⟩
    unfold opP
    simp only [ho']
    rw [if_pos (by simp [Region.wanted, hg'])]
    exact h'
  · refine ⟨hk'', ?_⟩
    unfold opP
    simp only [ho'']
    rw [if_pos (by simp [Region.wanted, hg''])]
    exact h''
/-- One operation, its continuation hidden. -/
theorem wpP_step {K : Act → World → Prop} {o : Oper} {a : Act} {w : World} (hg : o.guard = none) (h : ∀ K' : Act → World → Prop, (∀ a w, K a w → K' a w) → if Region.wanted o (yielded #[] a.tmps) = true then o.wp P a w K' noQ else True) : o.wp P a w K noQ := by
  have := h K (fun _ _ h => h)
  rwa [if_pos (by simp [Region.wanted, hg])] at this

/-- The leaf: all of the first m are listed, and the rest goes in order. -/
def restL (P : Program) (Q : Exit → Act → World → Prop) (l : List Oper) (m : Nat) (listed : Array Bool) (a : Act) (w : World) : Prop :=
  listed = putB m 0 (Array.replicate l.toArray.size false) ∧ wpList P l.toArray Q (l.drop m) a w

/-- What is asked of the region's text. -/
def freeB (ops : Array Oper) (ids : List Nat) (m : Nat) : Bool :=
  Region.noSelect ops && decide (m < ops.size) && (ids.all fun k => decide (k < m)) && decide (ids.length ≤ m) && lateB ops 0 m && freeIds ops ids (Array.replicate ops.size false) &&
  Region.seqB .any ops (ops.size - m) m (putB m 0 (Array.replicate ops.size false))

end

theorem wp_region_free {id : Nat} {P : Program} {Q : Exit → Act → World → Prop} {a : Act} {w : World} {l : List Oper} (ids : List Nat) (m : Nat) (C : World → Prop) (hm : P.follows .mixedOrders = true) (hB : freeB l.toArray ids m = true)
    (h : wpYields P l.toArray C (fun a' => anyP P l.toArray C m (restL P Q l m) (m - ids.length) (putIds ids (Array.replicate l.toArray.size false)) a' w.drew) (pick l.toArray ids) a) :
    (Code.region id l.toArray true).wp P Q a w := by
  unfold freeB at hB
  simp only [Bool.and_eq_true, decide_eq_true_eq, List.all_eq_true] at hB
  obtain ⟨⟨⟨⟨⟨⟨hsel, hms⟩, hids⟩, hlen⟩, hlate⟩, hfree⟩, hseq⟩ := hB
  have hml : m < l.length := by simpa using hms
  refine wp_region_any hm ?_
  change wpAny _ _ _ _ _ _ _ w.drew
  have hend : ∀ listed a w, restL P Q l m listed a w → ∀ j ∈ Region.ready .any l.toArray listed, m ≤ j := fun listed a w h => by
    rw [h.1]
    exact seqB_ready hseq
  have hshut : Shut l.toArray m (Array.replicate l.toArray.size false) :=
    ⟨by simp, fun j oj _ hl => (by rw [getD_replicate_false] at hl; cases hl), fun t _ ht => getD_in (by simpa using ht) (getD_replicate_false _ _)⟩
  have H := anyP_yields (g := m - ids.length) hsel hlate hms hend ids _ a hids hshut hfree h
  have hdl : (l.drop m).length = l.toArray.size - m := by simp
  have := wpAny_of_anyP (g := l.toArray.size - m) (fun listed a w hL => by
    have := wpAny_of_seq (md := .any) (Q' := Q) (l.drop m) m listed a w (fun j => by simp [List.getElem?_drop]) (by rw [hdl, hL.1]; exact hseq) hL.2
    rwa [hdl] at this) _ _ _ _ H
  rwa [show ids.length + (m - ids.length) + (l.toArray.size - m) = l.toArray.size by omega] at this

/-- Further operations that yield the same in each world of the class, behind one that did not. -/
def shutB (ops : Array Oper) (m : Nat) (listed : Array Bool) : Bool :=
  decide (listed.size = ops.size) && ((List.range ops.size).all fun j => !(listed.getD j false) || match ops[j]? with
    | some oj => oj.after.all fun e => !(Region.binds .any e) || listed.getD e.on false
    | none => true) && ((List.range ops.size).all fun t => decide (t < m) || !(listed.getD t true))
theorem shutB_spec {ops : Array Oper} {m : Nat} {listed : Array Bool} (h : shutB ops m listed = true) : Shut ops m listed := by
  unfold shutB at h
  simp only [Bool.and_eq_true, decide_eq_true_eq] at h
  obtain ⟨⟨h1, h2⟩, h3⟩ := h
  refine ⟨h1, fun j oj hj hl e he hb => ?_, fun t ht hts => ?_⟩
  · have hlt := (Array.getElem?_eq_some_iff.1 hj).1
    have := List.all_eq_true.1 h2 j (List.mem_range.2 hlt)
    rw [hl, hj] at this
    simp only [Bool.not_true, Bool.false_or] at this
    have h5 := Array.all_eq_true_iff_forall_mem.1 this e he
    rw [hb] at h5
    simpa using h5
  · have := List.all_eq_true.1 h3 t (List.mem_range.2 hts)
    rw [Bool.or_eq_true, decide_eq_true_eq] at this
    rcases this with h | h
    · omega
    · simpa using h
def moreB (ops : Array Oper) (ids : List Nat) (m : Nat) (listed : Array Bool) : Bool :=
  Region.noSelect ops && decide (m < ops.size) && (ids.all fun k => decide (k < m)) && lateB ops 0 m && shutB ops m listed && freeIds ops ids listed &&
  Region.seqB .any ops (ops.size - m) m (putB m 0 (Array.replicate ops.size false))
theorem anyP_more {P : Program} {C : World → Prop} {m g f : Nat} {Q : Exit → Act → World → Prop} {l : List Oper} {listed : Array Bool} {a : Act} {w : World} (ids : List Nat) (hB : moreB l.toArray ids m listed = true) (hf : f = ids.length + g)
    (h : wpYields P l.toArray C (fun a' => anyP P l.toArray C m (restL P Q l m) g (putIds ids listed) a' w) (pick l.toArray ids) a) : anyP P l.toArray C m (restL P Q l m) f listed a w := by
  unfold moreB at hB
  simp only [Bool.and_eq_true, decide_eq_true_eq, List.all_eq_true] at hB
  obtain ⟨⟨⟨⟨⟨⟨hsel, hms⟩, hids⟩, hlate⟩, hshut⟩, hfree⟩, hseq⟩ := hB
  subst hf
  exact anyP_yields hsel hlate hms (fun listed a w h => by
    rw [h.1]
    exact seqB_ready hseq) ids _ a hids (shutB_spec hshut) hfree h
theorem anyP_leaf {P : Program} {ops : Array Oper} {C : World → Prop} {m : Nat} {Q : Exit → Act → World → Prop} {l : List Oper} {listed : Array Bool} {a : Act} {w : World} (hC : C w) (hl : listed = putB m 0 (Array.replicate l.toArray.size false)) (h : wpList P l.toArray Q (l.drop m) a w) : anyP P ops C m (restL P Q l m) 0 listed a w := ⟨hC, hl, h⟩

theorem append_empty {P : Program} {t e ty : TypeId} {i : TypeInfo} {z : Value} (w : World) (ht : P.underlying t = some (.slice e)) (hi : P.info? e = some i) (hz : i.zero = some z) (b : Nat) (n c : Nat) (hnc : n ≤ c) (la : Option Addr) (lc : Nat) :
    (Builtin.append_ #[t, t] ty #[.slice (some ⟨b, 0, none⟩) n c, .slice la 0 lc]).run P w = .ok (.slice (some ⟨b, 0, none⟩) n c) w := by
  have hf : (Builtin.firstCells i.size 0 (.slice la 0 lc)).run P w = .ok #[] w := by
    cases la with
    | none => exact run_firstCells_none w _ _ _ _
    | some x => exact run_firstCells_some w i.size 0 x 0 lc [] (by simp) (by simp)
  cases la <;> simp [Builtin.append_, run_underlying ht, sizeOf, typeInfo, zeroValue, hi, hz, Builtin.lenOf, hnc, hf, storeCells]

/-- A row of the call's own, not nil, to which a row that is read is appended: none, too. -/
theorem wp_append_reads {P : Program} (w : World) {o : Oper} {a : Act} {K : Act → World → Prop} {Q : Exit → Act → World → Prop} (s x : Operand) (t : TypeId)
    (ho : o.op = .call { callee := .builtin .append, args := #[s, x], argTypes := #[t, t] })
    (base : Nat) (e : TypeId) (i : TypeInfo) (z : Value) (size bytes : Nat) (ht : P.underlying t = some (.slice e)) (hi : P.info? e = some i) (hz : i.zero = some z)
    (hsize : i.size = size) (hby : i.bytes = bytes) (hzs : z.cells.size = size) (hsz : 0 < size)
    (b : Nat) (n c : Nat) (xs : List Value) (hs : a.eval s = .slice (some ⟨b, 0, none⟩) n c) (hown : w.ownsRow base e size (.slice (some ⟨b, 0, none⟩) n c) n xs)
    (xv : Value) (m : Nat) (news : List Value) (hx : a.eval x = xv) (hr : Reads w xv m news) (hl : news.length = m * size) (h1 : ∀ u ∈ news, u.oneCell' = true)
    (h63 : n + m ≤ maxLen) (hbytes : (n + m) * bytes ≤ 140737488355328) (hbase : base ≤ w.heap.size)
    (h : ∀ g cap w', w'.ownsRow base e size (.slice (some ⟨g, 0, none⟩) (n + m) cap) (n + m) (xs ++ news) → w.grownBy w' (some b) → (g = b ∨ g = w.heap.size) → K (a.put o.dst (.slice (some ⟨g, 0, none⟩) (n + m) cap)) w') : o.wp P a w K Q := by
  by_cases hm : 0 < m
  · obtain ⟨b', o', c', rfl, hcap, hcm, hbl, hcells⟩ := hr.some hm
    refine wp_append_lies w s x t ho base e i z size bytes ht hi hz hsize hby hzs hsz _ n xs hs hown ⟨b', o', none⟩ m c' news hx hl (fun j u hj => ?_) h1 hm h63 hbytes hbase _ rfl (fun g cap w' h2 h3 h4 h5 => h g cap w' h2 h3 ?_)
    · have hadd : (⟨b', o', none⟩ : Addr).add j = ⟨b', o' + j, none⟩ := by unfold Addr.add; split <;> simp_all
      rw [hadd]
      exact hcells j u hj
    · rcases h4 with h4 | h4
      · simp only [Value.ownBlock, Option.some.injEq] at h4
        exact .inl h4.symm
      · exact .inr h4
  · obtain rfl : m = 0 := by omega
    obtain rfl : news = [] := by cases news with | nil => rfl | cons _ _ => simp at hl
    obtain ⟨la, lc, rfl⟩ := hr.shape
    have hnc : n ≤ c := by
      rcases hown.2 with ⟨h, -⟩ | ⟨g', cap', cur, hv, h2, h3, h4, -⟩
      · cases h
      · simp only [Value.slice.injEq] at hv
        obtain ⟨-, -, rfl⟩ := hv
        exact h4
    have hr' := append_empty (P := P) (ty := o.type) w ht hi hz b n c hnc la lc
    unfold Oper.wp execOp
    simp only [ho, resolve, invoke, builtin, Sem.run_bind, Sem.run_pure, Result.andThen_ok, List.map_toArray, List.map_cons, List.map_nil, hs, hx, hr']
    exact h b c w (by rw [List.append_nil]; exact hown) ⟨rfl, rfl, rfl, Nat.le_refl _, fun _ _ _ => rfl⟩ (.inl rfl)
end Go.Proofs.Ytllecjhfbojgcaa
