/-
  A region that draws its order: still operations, one that is not, and still ones behind it that all wait for that one.
-/
import Derived.Test.YtdnjmihalmhddaaFreeRegion
namespace Go.Proofs.Ytdnjmihalmhddaa
open Go.RowKit

section
variable {P : Program} {ops : Array Oper}

theorem anyQ_take {C : World → Prop} {m i : Nat} {oi : Oper} {v : Value} {L : Array Bool → Act → World → Prop} (hsel : Region.noSelect ops = true) (hl : ∀ listed, Shut ops m listed → ∀ i, i < m → listed.getD i true = false → ∀ t, m ≤ t → t ∉ Region.ready .any ops listed) (him : i < m) (hi : ops[i]? = some oi)
    (hend : ∀ listed a w, L listed a w → ∀ j ∈ Region.ready .any ops listed, m ≤ j) :
    ∀ (f : Nat) (listed : Array Bool) (a : Act) (w : World), Shut ops m listed →
      (∀ j oj, ops[j]? = some oj → j ≠ i → listed.getD j true = false → (∀ e ∈ oj.after, Region.binds .any e = true → e.on ≠ i) → oi.apart ops oj = true) →
      i ∈ Region.ready .any ops listed → (∀ W, C W → YieldsAt P ops W oi v a) →
      anyP P ops C m L f (listed.setIfInBounds i true) (a.put oi.dst v) w → anyP P ops C m L (f + 1) listed a w := by
  intro f
  induction f with
  | zero =>
    intro listed a w hs hfree hr hy H
    have hun := (mem_ready.1 hr).1
    refine ⟨H.1, fun h => (by rw [h] at hr; cases hr), fun j hj => ?_⟩
    have hjm : j < m := by
      rcases Nat.lt_or_ge j m with h | h
      · exact h
      · exact absurd hj (hl listed hs i him hun j h)
    refine ⟨hjm, ?_⟩
    by_cases hji : j = i
    · subst hji
      exact yields_opP hi (hy w H.1) H
    · have := hend _ _ _ H.2 j (ready_mono hj hji)
      omega
  | succ f ih =>
    intro listed a w hs hfree hr hy H
    have hun := (mem_ready.1 hr).1
    refine ⟨H.1, fun h => (by rw [h] at hr; cases hr), fun j hj => ?_⟩
    have hjm : j < m := by
      rcases Nat.lt_or_ge j m with h | h
      · exact h
      · exact absurd hj (hl listed hs i him hun j h)
    refine ⟨hjm, ?_⟩
    by_cases hji : j = i
    · subst hji
      exact yields_opP hi (hy w H.1) H
    · have h1 := (H.2.2 j (ready_mono hj hji)).2
      obtain ⟨hjun, oj, hoj, hall⟩ := mem_ready.1 hj
      have hno : ∀ e ∈ oj.after, Region.binds .any e = true → e.on ≠ i := fun e he hb heq => by
        have h4 := hall e he hb
        rw [heq, getD_both hun] at h4
        cases h4
      refine opP_mono (fun a' w' h3 => ih (listed.setIfInBounds j true) a' w' (hs.set hj hjm) (fun k ok hk hki hku hkn => ?_) (ready_mono hr (Ne.symm hji)) h3.1 ?_)
        (opP_past hoj (hfree j oj hoj hji hjun hno) (Region.noSelect_spec hsel i oi · · hi) (Region.noSelect_spec hsel j oj · · hoj) hy h1)
      · refine hfree k ok hk hki ?_ hkn
        by_cases hjk : j = k
        · subst hjk; exact hjun
        · rw [getD_set_ne true hjk] at hku; exact hku
      · rw [Array.setIfInBounds_comm _ _ hji]
        exact h3.2


theorem anyQ_yields {C : World → Prop} {m g : Nat} {L : Array Bool → Act → World → Prop} {w : World} (hsel : Region.noSelect ops = true) (hl : ∀ listed, Shut ops m listed → ∀ i, i < m → listed.getD i true = false → ∀ t, m ≤ t → t ∉ Region.ready .any ops listed) (hm : m < ops.size)
    (hend : ∀ listed a w, L listed a w → ∀ j ∈ Region.ready .any ops listed, m ≤ j) :
    ∀ (ids : List Nat) (listed : Array Bool) (a : Act), (∀ k ∈ ids, k < m) → Shut ops m listed → freeIds ops ids listed = true →
      wpYields P ops C (fun a' => anyP P ops C m L g (putIds ids listed) a' w) (pick ops ids) a → anyP P ops C m L (ids.length + g) listed a w := by
  intro ids
  induction ids with
  | nil => intro listed a _ _ _ h; rw [List.length_nil, Nat.zero_add]; exact h
  | cons k ids ih =>
    intro listed a hids hs hB h
    simp only [freeIds, Bool.and_eq_true] at hB
    obtain ⟨⟨hr, hf⟩, hB'⟩ := hB
    have hkm := hids k (by simp)
    have hr' : k ∈ Region.ready .any ops listed := by simpa using hr
    obtain ⟨o, h0⟩ : ∃ o, ops[k]? = some o := ⟨_, Array.getElem?_eq_getElem (show k < ops.size by omega)⟩
    unfold pick at h
    rw [h0] at h
    obtain ⟨v, hy, hrest⟩ := h
    rw [List.length_cons, Nat.add_right_comm]
    refine anyQ_take hsel hl hkm h0 hend _ listed a w hs (Region.free_spec h0 hf) hr' hy ?_
    exact ih _ _ (fun j hj => hids j (by simp [hj])) (hs.set hr' hkm) hB' hrest


/-- Operation m waits for all ahead of it; each behind it waits for one from m on. -/
def gateB (ops : Array Oper) (m : Nat) : Bool :=
  ((List.range m).all fun i => Region.waitsFor .any ops m i) && (List.range ops.size).all fun t => decide (t ≤ m) || (List.range t).any fun j => decide (m ≤ j) && Region.waitsFor .any ops t j

theorem gate_late {m : Nat} {listed : Array Bool} (hB : gateB ops m = true) (hs : Shut ops m listed) (i : Nat) (him : i < m) (hun : listed.getD i true = false) : ∀ t, m ≤ t → t ∉ Region.ready .any ops listed := by
  obtain ⟨h1, h2, h3⟩ := hs
  unfold gateB at hB
  rw [Bool.and_eq_true, List.all_eq_true, List.all_eq_true] at hB
  obtain ⟨hA, hC⟩ := hB
  intro t ht hr
  obtain ⟨-, ot, hot, hall⟩ := mem_ready.1 hr
  have htl : t < ops.size := (Array.getElem?_eq_some_iff.1 hot).1
  by_cases htm : t = m
  · subst htm
    obtain ⟨om, hom, e', he', hb', hon'⟩ := Region.waitsFor_spec (hA i (List.mem_range.2 him))
    rw [hot] at hom
    cases hom
    have := hall e' he' hb'
    rw [hon', getD_both hun] at this
    cases this
  have hx := hC t (List.mem_range.2 htl)
  rw [Bool.or_eq_true, decide_eq_true_eq] at hx
  rcases hx with hx | hx
  · omega
  obtain ⟨j, hj, hx⟩ := List.any_eq_true.1 hx
  rw [Bool.and_eq_true, decide_eq_true_eq] at hx
  obtain ⟨o', ho', e, he, hb, hon⟩ := Region.waitsFor_spec hx.2
  rw [hot] at ho'
  cases ho'
  have hlj := hall e he hb
  rw [hon] at hlj
  have hjt := List.mem_range.1 hj
  have := h3 j (by omega) (by omega)
  rw [getD_both this] at hlj
  cases hlj

/-- Still operations in the text's order, in one world. -/
theorem wpAnyS_yields {w : World} {Q : Act → Prop} (hs : Region.noSelect ops = true) : ∀ (l : List Oper) (k : Nat) (listed : Array Bool) (a : Act), (∀ j, l[j]? = ops[k + j]?) →
    Region.lexFrom .any ops l.length k listed = true → wpYields P ops (fun W => W = w) Q l a → wpAnyS P .any ops w Q l.length listed a
  | [], _, _, _, _, hB, h => ⟨by simpa [Region.lexFrom] using hB, h⟩
  | o :: l, k, listed, a, hl, hB, h => by
    have h0 : ops[k]? = some o := by simpa using (hl 0).symm
    simp only [List.length_cons, Region.lexFrom, Bool.and_eq_true] at hB
    obtain ⟨⟨hr, hf⟩, hB'⟩ := hB
    obtain ⟨v, hy, hK⟩ := h
    exact wpAnyS_first h0 (Region.noSelect_spec hs) l.length listed a (Region.free_spec h0 hf) (by simpa using hr) (hy w rfl)
      (wpAnyS_yields hs l (k + 1) _ _ (fun j => by have := hl (j + 1); simpa [Nat.add_assoc, Nat.add_comm 1 j] using this) hB' hK)

def gateOk (ops : Array Oper) (ids : List Nat) (m : Nat) : Bool :=
  Region.noSelect ops && decide (m + 1 < ops.size) && (ids.all fun k => decide (k < m)) && decide (ids.length = m) && gateB ops m && freeIds ops ids (Array.replicate ops.size false) &&
  decide (Region.ready .any ops (putIds ids (Array.replicate ops.size false)) = [m]) && Region.lexFrom .any ops (ops.size - (m + 1)) (m + 1) ((putIds ids (Array.replicate ops.size false)).setIfInBounds m true)

end

theorem wpYields_mono {P : Program} {ops : Array Oper} {C : World → Prop} {K K' : Act → Prop} (hK : ∀ a, K a → K' a) : ∀ (l : List Oper) (a : Act), wpYields P ops C K l a → wpYields P ops C K' l a := by
  intro l
  induction l with
  | nil => intro a h; exact hK a h
  | cons o l ih => intro a ⟨v, h1, h2⟩; exact ⟨v, h1, ih _ h2⟩

theorem wp_region_gate {id : Nat} {P : Program} {Q : Exit → Act → World → Prop} {a : Act} {w : World} {l : List Oper} (ids : List Nat) (m : Nat) (o : Oper) (hm : P.follows .mixedOrders = true) (hB : gateOk l.toArray ids m = true) (ho : l[m]? = some o) (hg : o.guard = none)
    (h : wpYields P l.toArray (fun W => W = w.drew) (fun a' => o.wp P a' w.drew (fun a2 w2 => wpYields P l.toArray (fun W => W = w2) (fun a3 => Q .normal a3 w2) (l.drop (m + 1)) a2) noQ) (pick l.toArray ids) a) :
    (Code.region id l.toArray true).wp P Q a w := by
  unfold gateOk at hB
  simp only [Bool.and_eq_true, decide_eq_true_eq, List.all_eq_true] at hB
  obtain ⟨⟨⟨⟨⟨⟨⟨hsel, hms⟩, hids⟩, hlen⟩, hgate⟩, hfree⟩, hready⟩, hlex⟩ := hB
  refine wp_region_any hm ?_
  change wpAny _ _ _ _ _ _ _ w.drew
  obtain ⟨S0, hS0⟩ : ∃ S, Array.replicate l.toArray.size false = S := ⟨_, rfl⟩
  have hshut : Shut l.toArray m S0 := by
    rw [← hS0]
    exact ⟨by simp, fun j oj _ hl => (by rw [getD_replicate_false] at hl; cases hl), fun t _ ht => getD_in (by simpa using ht) (getD_replicate_false _ _)⟩
  rw [hS0] at hfree hready hlex ⊢
  let L : Array Bool → Act → World → Prop := fun listed a w => listed = putIds ids S0 ∧ wpAny P .any l.toArray Q (l.toArray.size - m) listed a w
  have hend : ∀ listed a w, L listed a w → ∀ j ∈ Region.ready .any l.toArray listed, m ≤ j := fun listed a w h j hj => by
    rw [h.1, hready, List.mem_singleton] at hj
    omega
  have hdl : (l.drop (m + 1)).length = l.toArray.size - (m + 1) := by simp
  have hleaf : ∀ a', o.wp P a' w.drew (fun a2 w2 => wpYields P l.toArray (fun W => W = w2) (fun a3 => Q .normal a3 w2) (l.drop (m + 1)) a2) noQ → anyP P l.toArray (fun W => W = w.drew) m L 0 (putIds ids S0) a' w.drew := fun a' ha => by
    refine ⟨rfl, rfl, ?_⟩
    obtain ⟨g, hg'⟩ : ∃ g, l.toArray.size - m = g + 1 := ⟨l.toArray.size - (m + 1), by omega⟩
    have hg2 : l.toArray.size - (m + 1) = g := by omega
    rw [hg']
    refine ⟨fun h0 => (by rw [hready] at h0; cases h0), fun i hi => ?_⟩
    rw [hready, List.mem_singleton] at hi
    subst hi
    unfold wpOp
    have hoi : l.toArray[i]? = some o := by simpa using ho
    simp only [hoi]
    rw [if_pos (by simp [Region.wanted, hg])]
    refine .inl (wp_noQ (Oper.wp_mono (fun a2 w2 h2 => ?_) ha))
    rw [hg2] at hlex hdl
    have := wpAnyS_yields (w := w2) hsel (l.drop (i + 1)) (i + 1) ((putIds ids S0).setIfInBounds i true) a2 (fun j => by simp [List.getElem?_drop]) (by rw [hdl]; exact hlex) h2
    rw [hdl] at this
    exact wpAny_of_still (Q := fun a3 => Q .normal a3 w2) (fun _ h => h) _ _ _ this
  have H := anyQ_yields (g := 0) hsel (fun listed hs i him hun => gate_late hgate hs i him hun) (by omega) hend ids S0 a hids hshut hfree (wpYields_mono hleaf _ _ h)
  have := wpAny_of_anyP (g := l.toArray.size - m) (fun listed a w hL => hL.2) _ _ _ _ H
  rwa [show ids.length + 0 + (l.toArray.size - m) = l.toArray.size by omega] at this

end Go.Proofs.Ytdnjmihalmhddaa
