/-
  OutputBoth, plainly.
-/
import Derived.Test.YtllecjhfbojgcaaOutCrash
namespace Go.Proofs.Ytllecjhfbojgcaa
open Go.RowKit
set_option maxRecDepth 20000

theorem bool_all {P : Bool → Prop} (h0 : P false) (h1 : P true) : ∀ q, P q := fun q => by cases q; exact h0; exact h1
def bD (x : List OutX) : ORec := ⟨1, 3, x⟩
def bM : ORec := ⟨2, 3, []⟩
def bX (a b : List OutX) (p : Bool) : List OutX := if p then b else a
def bo1 (a : List OutX) : OSt := (out0.tell false 3 a).2
def bo2 (a b : List OutX) : OSt := ((bo1 a).tell true 3 b).2
def bo3 (a b : List OutX) : OSt := (bo2 a b).sync.2
def bo4 (a b : List OutX) (p : Int) : OSt := { bo3 a b with D := (Dk.power (bo3 a b).D p).2 }
def bo5 (a b : List OutX) (p : Int) : OSt := ((bo4 a b p).mark 3).2
theorem wt_d (x : List OutX) : wtO [bD x] = 25 + 20 * x.length := by simp [wtO, bD]
theorem wt_dm (x : List OutX) : wtO [bD x, bM] = 50 + 20 * x.length := by simp [wtO, bD, bM]; omega
theorem last_d (x : List OutX) : lastO [bD x] 2 = 0 := rfl
theorem last_dm (x : List OutX) : lastO [bD x, bM] 2 = 3 := rfl
theorem counts_dm (x : List OutX) : countsO [bD x, bM] = x := by
  rw [countsO_all (fun r hr => by
    rw [last_dm]
    simp only [List.mem_cons, List.not_mem_nil, or_false] at hr
    rcases hr with rfl | rfl <;> exact Int.le_refl _)]
  simp [bD, bM]
theorem markable_d (x : List OutX) : Markable 3 [bD x] := .inr rfl
theorem markable_dm (x : List OutX) : Markable 3 [bD x, bM] := .inl (Int.le_refl _)
theorem markR_d (x : List OutX) : markR 3 [bD x] = [bD x, bM] := rfl
theorem markR_dm (x : List OutX) : markR 3 [bD x, bM] = [bD x, bM] := rfl
theorem markL_d (p : Bool) (x : List OutX) : markL 3 p [bD x] = [(p, entO bM)] := rfl

structure BothP (a b : List OutX) (p : Int) : Prop where
  f0 : OFit 10 out0
  e1 : (out0.tell false 3 a).1 = 0
  f1 : OFit 10 (bo1 a)
  e2 : ((bo1 a).tell true 3 b).1 = 0
  e3 : (bo2 a b).sync.1 = 0
  f4 : OFit 10 (bo4 a b p)
  e5 : ((bo4 a b p).mark 3).1 = 0 ∨ ((bo4 a b p).mark 3).1 = 50
  ex : ∀ x y, ∃ rs : Bool → List ORec, ∃ D1 D2, Opens (Dk.crash (bo5 a b p).D x y) 2 D1 ((rs false).map entO) ∧ Opens D1 3 D2 ((rs true).map entO) ∧ (∀ q, OValid (rs q)) ∧ lastO (rs true) 2 ≤ lastO (rs false) 2 ∧ (((bo4 a b p).mark 3).1 = 0 → lastO (rs true) 2 = 3) ∧ (openSt D2 rs 2 0).r = rs ∧ OFit 10 (openSt D2 rs 2 0) ∧ ((openSt D2 rs 2 0).mark 3).1 = 0 ∧ ∀ q, ((openSt D2 rs 2 0).mark 3).2.r q = [bD (bX a b q), bM]

theorem both_fin {a b : List OutX} (hl : a.length + b.length ≤ 500) {D2 : Dk.St} {rs : Bool → List ORec} {s : Bool → List Lg.Rec} (hr : (openSt D2 rs 2 0).r = rs) (ht : OTwo (openSt D2 rs 2 0) s []) (hF : Lg.Free D2) (hk : ∀ q, rs q = [bD (bX a b q)] ∨ rs q = [bD (bX a b q), bM]) :
    OFit 10 (openSt D2 rs 2 0) ∧ ((openSt D2 rs 2 0).mark 3).1 = 0 ∧ ∀ q, ((openSt D2 rs 2 0).mark 3).2.r q = [bD (bX a b q), bM] := by
  have hx : ∀ q, (bX a b q).length ≤ 500 := fun q => by cases q <;> (unfold bX; simp; omega)
  have hlen : ∀ q, (rs q).length ≤ 2 := fun q => by rcases hk q with e | e <;> rw [e] <;> simp
  have hwt : ∀ q, wtO (rs q) ≤ 10050 := fun q => by
    have := hx q
    rcases hk q with e | e <;> rw [e]
    · rw [wt_d]; omega
    · rw [wt_dm]; omega
  have h0 := hlen false
  have h1 := hlen true
  refine ⟨ht.fit (by rw [hr]; omega), ?_⟩
  have hw0 := hwt false
  have hw1 := hwt true
  rcases ht.mark 3 (by unfold Cl.In64; omega) (by omega) (fun q => by rw [hr]; exact (hk q).elim (fun e => e ▸ markable_d _) (fun e => e ▸ markable_dm _)) (fun q => by rw [hr]; have := hlen q; omega) (by rw [hr]; omega) with ⟨q1, q2, -⟩ | ⟨-, q2, -⟩
  · refine ⟨q1, fun q => ?_⟩
    rw [q2, hr]
    show markR 3 (rs q) = _
    rcases hk q with e | e <;> rw [e]
    · exact markR_d _
    · exact markR_dm _
  · exact absurd hF q2

theorem bothP (a b : List OutX) (ha : OIn a) (hb : OIn b) (hl : a.length + b.length ≤ 500) (p : Int) (hp : p ≤ 9223372036854775807) : BothP a b p := by
  have h3 : Cl.In64 3 := by unfold Cl.In64; omega
  have w0 : wtO [] = 0 := rfl
  have r0 := out0_r
  have f0 : OFit 10 out0 := (open_fit _ rfl).mono (by omega)
  obtain ⟨e1, r1, t1, F1⟩ := OTwo.start.tell1 out0_free false 3 a h3 (by omega) ha (by omega) (by rw [r0]; decide) (by rw [r0]; decide) (by rw [r0]; decide) (by rw [r0, w0]; omega)
  have t1 : OTwo (bo1 a) _ _ := t1
  have r1f : (bo1 a).r false = [bD a] := by show (out0.tell false 3 a).2.r false = _; rw [r1, upd_same, r0]; rfl
  have r1t : (bo1 a).r true = [] := by show (out0.tell false 3 a).2.r true = _; rw [r1, upd_ne _ _ (by decide), r0]
  have hwa := wt_d a
  have hwb := wt_d b
  obtain ⟨e2, r2, t2, F2⟩ := t1.tell1 F1 true 3 b h3 (by omega) hb (by omega) (by rw [r1t]; decide) (by rw [r1t]; decide) (by rw [r1t]; decide) (by rw [r1t, r1f, w0, hwa]; omega)
  have t2 : OTwo (bo2 a b) _ _ := t2
  have r2f : (bo2 a b).r false = [bD a] := by show ((bo1 a).tell true 3 b).2.r false = _; rw [r2, upd_ne _ _ (by decide), r1f]
  have r2t : (bo2 a b).r true = [bD b] := by show ((bo1 a).tell true 3 b).2.r true = _; rw [r2, upd_same, r1t]; rfl
  obtain ⟨e3, r3, t3, F3⟩ : (bo2 a b).sync.1 = 0 ∧ (bo2 a b).sync.2.r = (bo2 a b).r ∧ OTwo (bo2 a b).sync.2 _ [] ∧ (Lg.Free _ → Lg.Free _) := by
    rcases t2.sync with h | ⟨-, h, -⟩
    · exact h
    · exact absurd F2 h
  obtain ⟨s4, t4⟩ : ∃ s4, OTwo (bo4 a b p) s4 [] := ⟨_, t3.power p hp⟩
  have r4 : ∀ q, (bo4 a b p).r q = [bD (bX a b q)] := fun q => by
    show (bo2 a b).sync.2.r q = _
    rw [r3]
    cases q
    · exact r2f
    · exact r2t
  have hx : ∀ q, (bX a b q).length ≤ 500 := fun q => by cases q <;> (unfold bX; simp; omega)
  have len4 : ∀ q, ((bo4 a b p).r q).length = 1 := fun q => by rw [r4]; rfl
  have hm := t4.mark 3 h3 (by omega) (fun q => by rw [r4]; exact markable_d _) (fun q => by rw [len4]; omega) (by rw [r4, r4, wt_d, wt_d]; have := hx false; have := hx true; omega)
  have hlenS : ∀ q, (s4 q).length = 1 := fun q => by
    have h1 := t4.lens q
    rw [len4, Lg.pick_nil] at h1
    simpa using h1
  have hfin : ∀ (l : List (Bool × Lg.Rec)) (S : OSt) (s : Bool → List Lg.Rec), OTwo S s l → (∀ q, wtO (S.r q) ≤ 10050) → ∀ x y,
      (∀ k, k ≤ l.length → ∀ rs : Bool → List ORec, (∀ q, rs q = (S.r q).take ((s q).length + (Lg.pick q (l.take k)).length)) → (∀ q, rs q = [bD (bX a b q)] ∨ rs q = [bD (bX a b q), bM]) ∧ lastO (rs true) 2 ≤ lastO (rs false) 2 ∧ (((bo4 a b p).mark 3).1 = 0 → lastO (rs true) 2 = 3)) →
      ∃ rs : Bool → List ORec, ∃ D1 D2, Opens (Dk.crash S.D x y) 2 D1 ((rs false).map entO) ∧ Opens D1 3 D2 ((rs true).map entO) ∧ (∀ q, OValid (rs q)) ∧ lastO (rs true) 2 ≤ lastO (rs false) 2 ∧ (((bo4 a b p).mark 3).1 = 0 → lastO (rs true) 2 = 3) ∧ (openSt D2 rs 2 0).r = rs ∧ OFit 10 (openSt D2 rs 2 0) ∧ ((openSt D2 rs 2 0).mark 3).1 = 0 ∧ ∀ q, ((openSt D2 rs 2 0).mark 3).2.r q = [bD (bX a b q), bM] := by
    intro l S s h hw x y hcase
    obtain ⟨k, rs, D1, D2, hk, hrs, ho0, ho1, ht, hF, hv, hr⟩ := h.crash (fun q => Nat.le_trans (hw q) (by omega)) x y
    obtain ⟨h1, h2, h3⟩ := hcase k hk rs hrs
    obtain ⟨g1, g2, g3⟩ := both_fin hl hr ht hF h1
    exact ⟨rs, D1, D2, ho0, ho1, hv, h2, h3, hr, g1, g2, g3⟩
  have wd : ∀ q, wtO [bD (bX a b q)] ≤ 10050 := fun q => by have := hx q; rw [wt_d]; omega
  have wdm : ∀ q, wtO [bD (bX a b q), bM] ≤ 10050 := fun q => by have := hx q; rw [wt_dm]; omega
  have r4' : ∀ q, markR 3 ((bo4 a b p).r q) = [bD (bX a b q), bM] := fun q => by rw [r4]; exact markR_d _
  have l4 : ∀ q, markL 3 q ((bo4 a b p).r q) = [(q, entO bM)] := fun q => by rw [r4]; exact markL_d _ _
  have h5 : ((bo4 a b p).mark 3).2 = bo5 a b p := rfl
  obtain ⟨c, hc⟩ : ∃ c, ((bo4 a b p).mark 3).1 = c := ⟨_, rfl⟩
  obtain ⟨S5, hS5⟩ : ∃ c, bo5 a b p = c := ⟨_, rfl⟩
  rw [h5, hS5, hc] at hm
  refine ⟨f0, e1, t1.fit (by rw [r1f, r1t]; simp), e2, e3, t4.fit (by rw [len4, len4]; omega), ?_, fun x y => ?_⟩
  · rw [hc]
    rcases hm with h | h
    · exact .inl h.1
    · exact .inr h.1
  · rw [hc] at hfin ⊢
    rw [hS5]
    rcases hm with ⟨q1, q2, ⟨s', q3⟩, -⟩ | ⟨q1, -, q3⟩
    · refine hfin [] S5 s' q3 (fun q => by rw [q2]; show wtO (markR 3 _) ≤ _; rw [r4']; exact wdm q) x y (fun k hk rs hrs => ?_)
      have hrs' : ∀ q, rs q = [bD (bX a b q), bM] := fun q => by
        have h1 := q3.lens q
        rw [hrs q, List.take_nil, h1]
        rw [List.take_length, q2]
        exact r4' q
      refine ⟨fun q => .inr (hrs' q), ?_, fun _ => ?_⟩
      · rw [hrs', hrs', last_dm, last_dm]; exact Int.le_refl _
      · rw [hrs', last_dm]
    · have hno : ∀ {P : Prop}, c = 0 → P := fun e => by rw [q1] at e; cases e
      rcases q3 with ⟨q4, q5⟩ | ⟨q4, q5⟩ | ⟨q4, q5 | ⟨s', q5⟩⟩
      · refine hfin _ S5 _ q5 (fun q => by rw [q4, r4]; exact wd q) x y (fun k hk rs hrs => ?_)
        have hrs' : ∀ q, rs q = [bD (bX a b q)] := fun q => by
          rw [hrs q, List.take_nil]
          rw [q4, hlenS, r4]
          rfl
        exact ⟨fun q => .inl (hrs' q), by rw [hrs', hrs', last_d, last_d]; exact Int.le_refl _, hno⟩
      · rw [l4, List.nil_append] at q5
        have e4f : S5.r false = [bD a, bM] := by rw [q4, upd_same]; exact r4' false
        have e4t : S5.r true = [bD b] := by rw [q4, upd_ne _ _ (by decide)]; exact r4 true
        refine hfin _ S5 _ q5 (fun q => ?_) x y (fun k hk rs hrs => ?_)
        · cases q
          · rw [e4f]; exact wdm false
          · rw [e4t]; exact wd true
        · have hf := hrs false
          have ht := hrs true
          rw [hlenS, e4f] at hf
          rw [hlenS, e4t] at ht
          have hk : k = 0 ∨ k = 1 := by have : k ≤ 1 := hk; omega
          rcases hk with rfl | rfl
          · have hf : rs false = [bD a] := hf
            have ht : rs true = [bD b] := ht
            exact ⟨bool_all (.inl hf) (.inl ht), by rw [hf, ht, last_d, last_d]; exact Int.le_refl _, hno⟩
          · have hf : rs false = [bD a, bM] := hf
            have ht : rs true = [bD b] := ht
            exact ⟨bool_all (.inr hf) (.inl ht), by rw [hf, ht, last_dm, last_d]; decide, hno⟩
      · rw [l4, l4, List.nil_append] at q5
        have e4f : S5.r false = [bD a, bM] := by rw [q4]; exact r4' false
        have e4t : S5.r true = [bD b, bM] := by rw [q4]; exact r4' true
        refine hfin _ S5 _ q5 (fun q => ?_) x y (fun k hk rs hrs => ?_)
        · cases q
          · rw [e4f]; exact wdm false
          · rw [e4t]; exact wdm true
        · have hf := hrs false
          have ht := hrs true
          rw [hlenS, e4f] at hf
          rw [hlenS, e4t] at ht
          have hk : k = 0 ∨ k = 1 ∨ k = 2 := by have : k ≤ 2 := hk; omega
          rcases hk with rfl | rfl | rfl
          · have hf : rs false = [bD a] := hf
            have ht : rs true = [bD b] := ht
            exact ⟨bool_all (.inl hf) (.inl ht), by rw [hf, ht, last_d, last_d]; exact Int.le_refl _, hno⟩
          · have hf : rs false = [bD a, bM] := hf
            have ht : rs true = [bD b] := ht
            exact ⟨bool_all (.inr hf) (.inl ht), by rw [hf, ht, last_dm, last_d]; decide, hno⟩
          · have hf : rs false = [bD a, bM] := hf
            have ht : rs true = [bD b, bM] := ht
            exact ⟨bool_all (.inr hf) (.inr ht), by rw [hf, ht, last_dm, last_dm]; exact Int.le_refl _, hno⟩
      · refine hfin [] S5 s' q5 (fun q => by rw [q4]; show wtO (markR 3 _) ≤ _; rw [r4']; exact wdm q) x y (fun k hk rs hrs => ?_)
        have hrs' : ∀ q, rs q = [bD (bX a b q), bM] := fun q => by
          have h1 := q5.lens q
          rw [hrs q, List.take_nil, h1]
          rw [List.take_length, q4]
          exact r4' q
        exact ⟨fun q => .inr (hrs' q), by rw [hrs', hrs', last_dm, last_dm]; exact Int.le_refl _, hno⟩

end Go.Proofs.Ytllecjhfbojgcaa
