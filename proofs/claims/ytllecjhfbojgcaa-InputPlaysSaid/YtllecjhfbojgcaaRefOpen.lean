/-
  What the reference's Open of an input holds while it goes: its logs, rows of numbers, how far they are merged.
-/
import Derived.Test.YtllecjhfbojgcaaRefAdd
import Derived.Deep.CutRange
namespace Go.Proofs.Ytllecjhfbojgcaa
open Go.RowKit
set_option maxRecDepth 20000

/-- The two logs that were opened, over one disk, with the box and the row of the logs. -/
theorem RInLive.ofOpen {f : Fr} {W w1 X w2 Y : World} {m r l0 l1 : Nat} {D2 : Dk.St} {L0 L1 : Lg.St} {F : Nat → Prop} {sv : Value}
    (hold : Since f W) (hF : ∀ k, F k → ¬ f.K k) (hFlt : ∀ k, F k → k < m) (hm : ¬ f.K m) (hmW : m < W.heap.size)
    {F1 G0 : Nat → Prop} (o1 : Only (fun k => F k ∨ False) W w1) (g0 : RLogAt w1 l0 r 0 L0 G0) (fg1 : ∀ k, F1 k → ¬ G0 k) (f1 : ∀ k, F1 k → F k ∨ W.heap.size ≤ k) (fl1 : ∀ k, F1 k → k < w1.heap.size) (gn1 : ∀ k, G0 k → False ∨ W.heap.size ≤ k) (hX : Only (fun k => k = m) w1 X)
    (ht2 : RTurned2 X w2 l1 r 1 D2 L1 F1 (fun _ => False)) (hY : Only (fun k => k = m ∨ (w1.heap.size ≤ k ∧ k < X.heap.size)) w2 Y) (hc : Y.heap[m]? = some (.cells #[sv, .slice none 0 0] 64))
    (hl : Y.ownsRow 0 119 1 sv 2 [ptr l0 0, ptr l1 0]) (hsv : ∀ g, sv.ownBlock = some g → ((w1.heap.size ≤ g ∧ g < X.heap.size) ∨ w2.heap.size ≤ g) ∧ g < Y.heap.size) :
    RInLive f Y m r l0 l1 sv (.slice none 0 0) ⟨D2, L0, L1, []⟩ := by
  have hs1 := o1.size
  have hsX := hX.size
  obtain ⟨F2, G1, o2, d2, g1, fg2, f2, gn2⟩ := ht2
  have hs2 := o2.size
  have hsY := hY.size
  have rF1 : ∀ k, F1 k → (F k ∧ k < m) ∨ (W.heap.size ≤ k ∧ k < w1.heap.size) := fun k hk => by
    rcases f1 k hk with h | h
    · exact .inl ⟨h, hFlt k h⟩
    · exact .inr ⟨h, fl1 k hk⟩
  have rF2 : ∀ k, F2 k → F1 k ∨ (X.heap.size ≤ k ∧ k < w2.heap.size) := fun k hk => by
    rcases f2 k hk with h | h
    · exact .inl h
    · exact .inr ⟨h, d2.lt k hk⟩
  have rG0 : ∀ k, G0 k → W.heap.size ≤ k ∧ k < w1.heap.size := fun k hk => by
    rcases gn1 k hk with h | h
    · exact h.elim
    · exact ⟨h, g0.lt k hk⟩
  have rG1 : ∀ k, G1 k → X.heap.size ≤ k ∧ k < w2.heap.size := fun k hk => by
    rcases gn2 k hk with h | h
    · exact h.elim
    · exact ⟨h, g1.lt k hk⟩
  have rF : ∀ k, F2 k → (k < m ∧ F k) ∨ (F1 k ∧ W.heap.size ≤ k ∧ k < w1.heap.size) ∨ (X.heap.size ≤ k ∧ k < w2.heap.size) := fun k hk => by
    rcases rF2 k hk with h | h
    · rcases rF1 k h with h2 | h2
      · exact .inl ⟨h2.2, h2.1⟩
      · exact .inr (.inl ⟨h, h2⟩)
    · exact .inr (.inr h)
  have rN : ∀ k, (k = m ∨ sv.ownBlock = some k) → k = m ∨ (w1.heap.size ≤ k ∧ k < X.heap.size) ∨ w2.heap.size ≤ k := fun k hk => by
    rcases hk with h | h
    · exact .inl h
    · exact .inr (hsv k h).1
  have hY' : ∀ k, k = m ∨ (w1.heap.size ≤ k ∧ k < X.heap.size) → ¬ f.K k := fun k hk => by
    rcases hk with h | h
    · rw [h]; exact hm
    · exact hold.fresh (by omega)
  have hbel : Since f Y := by
    have a1 := hold.only o1 (fun i hi => by rcases hi with h | h; exact hF i h; exact h.elim)
    have a2 := a1.only hX (fun i hi => by rw [show i = m from hi]; exact hm)
    have a3 := a2.only o2 (fun i hi => by
      rcases hi with h | h
      · rcases rF1 i h with h | h
        · exact hF i h.1
        · exact hold.fresh h.1
      · exact h.elim)
    exact a3.only hY hY'
  have kY : ∀ k, (k = m ∨ (w1.heap.size ≤ k ∧ k < X.heap.size)) → ¬ F2 k ∧ ¬ G0 k ∧ ¬ G1 k := fun k hk => by
    refine ⟨fun h => ?_, fun h => ?_, fun h => ?_⟩
    · rcases rF k h with h | h | h <;> omega
    · have := rG0 k h; omega
    · have := rG1 k h; omega
  have gX := g0.only hX (fun k hk e => by have := rG0 k hk; have e : k = m := e; omega)
  have g02 := gX.only o2 (fun k hk e => by rcases e with e | e; exact fg1 k e hk; exact e)
  refine ⟨F2, G0, G1, fun k => k = m ∨ sv.ownBlock = some k, ⟨hbel, d2.only hY (fun k hk e => (kY k e).1 hk), g02.only hY (fun k hk e => (kY k e).2.1 hk), g1.only hY (fun k hk e => (kY k e).2.2 hk), hc, hl, World.ownsRow_nil _ _ _ _, .inl rfl, fun g hg => ?_, fun k hk => ?_, fun k hk hg => ?_, fg2, fun k hk hn => ?_, fun k hk hg => ?_, fun k hk hn => ?_, fun k hk hn => ?_, fun k hk => ?_⟩⟩
  · rcases hg with hg | hg
    · exact .inr hg
    · cases hg
  · rcases hk with hk | hk
    · rw [show k = m from hk]; exact (Array.getElem?_eq_some_iff.1 hc).1
    · exact (hsv k hk).2
  · have := rG0 k hg
    rcases rF k hk with h | h | h
    · omega
    · exact fg1 k h.1 hg
    · omega
  · have := rN k hn
    rcases rF k hk with h | h | h <;> omega
  · have := rG0 k hk
    have := rG1 k hg
    omega
  · have := rG0 k hk
    have := rN k hn
    omega
  · have := rG1 k hk
    have := rN k hn
    omega
  · rcases hk with hk | hk | hk | hk
    · rcases rF k hk with h | h | h
      · exact hF k h.2
      · exact hold.fresh h.2.1
      · exact hold.fresh (by omega)
    · exact hold.fresh (rG0 k hk).1
    · exact hold.fresh (by have := rG1 k hk; omega)
    · rcases rN k hk with h | h | h
      · rw [h]; exact hm
      · exact hold.fresh (by omega)
      · exact hold.fresh (by omega)

/-- Three numbers that were read. -/
def Num3 (w : World) (v : Value) (q : Int × InR) (X : Nat → Prop) : Prop :=
  ∃ b c, v = .slice (some ⟨b, 0, none⟩) 3 c ∧ X b ∧ w.cell? ⟨b, 0, none⟩ = some (.int .i64 q.1) ∧ w.cell? ⟨b, 1, none⟩ = some (.int .i64 q.2.key) ∧ w.cell? ⟨b, 2, none⟩ = some (.int .i64 q.2.val) ∧ ∃ cur, w.heap[b]? = some (.cells cur 2)
theorem Num3.kept {w w' : World} {v : Value} {q : Int × InR} {X X' : Nat → Prop} (h : Num3 w v q X) (hk : ∀ k cur, X k → w.heap[k]? = some (.cells cur 2) → w'.heap[k]? = w.heap[k]?) (hX : ∀ k, X k → X' k) : Num3 w' v q X' := by
  obtain ⟨b, c, h1, h2, h3, h4, h5, cur, h6⟩ := h
  have hb := hk b cur h2 h6
  exact ⟨b, c, h1, hX b h2, (World.cell?_of_block hb).trans h3, (World.cell?_of_block hb).trans h4, (World.cell?_of_block hb).trans h5, cur, hb.trans h6⟩
def Nums (w : World) (A : List (Int × InR)) (vs : List Value) (X : Nat → Prop) : Prop := ∀ (j : Nat) (q : Int × InR), A[j]? = some q → ∃ v, vs[j]? = some v ∧ Num3 w v q X
theorem Nums.kept {w w' : World} {A : List (Int × InR)} {vs : List Value} {X X' : Nat → Prop} (h : Nums w A vs X) (hk : ∀ k cur, X k → w.heap[k]? = some (.cells cur 2) → w'.heap[k]? = w.heap[k]?) (hX : ∀ k, X k → X' k) : Nums w' A vs X' := fun j q hq => by
  obtain ⟨v, h1, h2⟩ := h j q hq
  exact ⟨v, h1, h2.kept hk hX⟩
theorem Nums.snoc {w : World} {A : List (Int × InR)} {vs : List Value} {X : Nat → Prop} (h : Nums w A vs X) (hl : vs.length = A.length) {v : Value} {q : Int × InR} (hv : Num3 w v q X) : Nums w (A ++ [q]) (vs ++ [v]) X := fun j y hy => by
  by_cases hj : j < A.length
  · rw [List.getElem?_append_left hj] at hy
    obtain ⟨u, h1, h2⟩ := h j y hy
    exact ⟨u, by rw [List.getElem?_append_left (by omega)]; exact h1, h2⟩
  · have hlt := (List.getElem?_eq_some_iff.1 hy).1
    rw [List.length_append, List.length_singleton] at hlt
    obtain rfl : j = A.length := by omega
    rw [List.getElem?_append_right (Nat.le_refl _), Nat.sub_self] at hy
    simp only [List.getElem?_cons_zero, Option.some.injEq] at hy
    subst hy
    exact ⟨v, by rw [List.getElem?_append_right (by omega), hl, Nat.sub_self]; rfl, hv⟩

/-- A row of rows, in a box's cell. -/
structure RowOf (w : World) (rv : Value) (A : List (Int × InR)) (vs : List Value) (X : Nat → Prop) : Prop where
  own : w.ownsRow 0 102 1 rv A.length vs
  mem : ∀ g, rv.ownBlock = some g → X g
  nums : Nums w A vs X
theorem RowOf.nil (w : World) (X : Nat → Prop) : RowOf w (.slice none 0 0) [] [] X := ⟨World.ownsRow_nil _ _ _ _, fun g hg => (by cases hg), fun j q hq => (by simp at hq)⟩
theorem RowOf.kept {w w' : World} {rv : Value} {A : List (Int × InR)} {vs : List Value} {X X' : Nat → Prop} (h : RowOf w rv A vs X) (hk : ∀ k, X k → w'.heap[k]? = w.heap[k]?) (hX : ∀ k, X k → X' k) : RowOf w' rv A vs X' :=
  ⟨own_kept h.own (fun g hg => hk g (h.mem g hg)), fun g hg => hX g (h.mem g hg), h.nums.kept (fun k _ hk' _ => hk k hk') hX⟩
theorem RowOf.len {w : World} {rv : Value} {A : List (Int × InR)} {vs : List Value} {X : Nat → Prop} (h : RowOf w rv A vs X) : vs.length = A.length := by
  have := h.own.1
  omega
theorem RowOf.type {w : World} {rv : Value} {A : List (Int × InR)} {vs : List Value} {X : Nat → Prop} (h : RowOf w rv A vs X) {g : Nat} (hg : rv.ownBlock = some g) : ∃ cur, w.heap[g]? = some (.cells cur 102) := by
  rcases h.own.2 with ⟨h0, -⟩ | ⟨g', cap', cur, hv, _, hcc, _⟩
  · rw [h0] at hg; cases hg
  · rw [hv] at hg
    simp only [Value.ownBlock, Option.some.injEq] at hg
    subst hg
    exact ⟨_, hcc⟩

/-- While logs are read: the input, and the rows that were read of it so far. -/
structure ROp (f : Fr) (w : World) (m r l0 l1 : Nat) (sv lv : Value) (S : InSt) (rb : Nat) (rv0 rv1 : Value) (A B : List (Int × InR)) (vs0 vs1 : List Value) (X : Nat → Prop) : Prop where
  inp : RInK f w m r l0 l1 sv lv S X
  new : ∀ k, X k → ¬ f.K k
  mem : X rb
  box : w.heap[rb]? = some (.cells #[rv0, rv1] 123)
  row0 : RowOf w rv0 A vs0 X
  row1 : RowOf w rv1 B vs1 X
  dis : ∀ g, rv0.ownBlock = some g → rv1.ownBlock ≠ some g

theorem ROp.lt {f : Fr} {w : World} {m r l0 l1 : Nat} {sv lv : Value} {S : InSt} {rb : Nat} {rv0 rv1 : Value} {A B : List (Int × InR)} {vs0 vs1 : List Value} {X : Nat → Prop} (h : ROp f w m r l0 l1 sv lv S rb rv0 rv1 A B vs0 vs1 X) : ∀ k, X k → k < w.heap.size := fun k hk => by
  obtain ⟨F, G0, G1, N, -, h2⟩ := h.inp
  exact (h2 k hk).1
/-- What is none of its blocks may change. -/
theorem ROp.below {f : Fr} {w w' : World} {m r l0 l1 : Nat} {sv lv : Value} {S : InSt} {rb : Nat} {rv0 rv1 : Value} {A B : List (Int × InR)} {vs0 vs1 : List Value} {X : Nat → Prop} (h : ROp f w m r l0 l1 sv lv S rb rv0 rv1 A B vs0 vs1 X) (hb : Below w.heap.size w w') :
    ROp f w' m r l0 l1 sv lv S rb rv0 rv1 A B vs0 vs1 (fun k => X k ∨ (w.heap.size ≤ k ∧ k < w'.heap.size)) := by
  have hk : ∀ k, X k → w'.heap[k]? = w.heap[k]? := fun k hk => hb.block k (h.lt k hk)
  exact ⟨h.inp.grow hb, fun k hk => hk.elim (h.new k) (fun e => h.inp.old.fresh e.1), .inl h.mem, (hk rb h.mem).trans h.box, h.row0.kept hk (fun _ h => .inl h), h.row1.kept hk (fun _ h => .inl h), h.dis⟩
theorem ROp.less {f : Fr} {w : World} {m r l0 l1 : Nat} {sv lv : Value} {S : InSt} {rb : Nat} {rv0 rv1 : Value} {A B : List (Int × InR)} {vs0 vs1 : List Value} {X : Nat → Prop} (h : ROp f w m r l0 l1 sv lv S rb rv0 rv1 A B vs0 vs1 X) :
    ∃ X', ROp f w m r l0 l1 sv lv S rb rv0 rv1 A B vs0 vs1 X' := ⟨X, h⟩

theorem ROp.start {f : Fr} {w : World} {m r l0 l1 : Nat} {sv lv : Value} {S : InSt} (h : RInLive f w m r l0 l1 sv lv S) :
    ROp f (w.alloc (.cells #[.slice none 0 0, .slice none 0 0] 123)) m r l0 l1 sv lv S w.heap.size (.slice none 0 0) (.slice none 0 0) [] [] [] [] (fun k => k = w.heap.size) := by
  have hb := bel_alloc w (.cells #[.slice none 0 0, .slice none 0 0] 123)
  refine ⟨(h.keep.grow hb).less (fun k hk => .inr (by rw [show k = w.heap.size from hk]; simp)), fun k hk => ?_, rfl, heap_alloc_new w _, RowOf.nil _ _, RowOf.nil _ _, fun g hg => (by cases hg)⟩
  rw [show k = w.heap.size from hk]
  exact h.old.fresh (Nat.le_refl _)

/-- Behind the append of three numbers to a part's row, and the store of the row. -/
theorem ROp.push {f : Fr} {w W w3 : World} {m r l0 l1 : Nat} {sv lv : Value} {S : InSt} {rb : Nat} {rv0 rv1 : Value} {A B : List (Int × InR)} {vs0 vs1 : List Value} {X : Nat → Prop} (h : ROp f w m r l0 l1 sv lv S rb rv0 rv1 A B vs0 vs1 X)
    (hW : Below w.heap.size w W) (p : Nat) (hp : p < 2) {g c : Nat} {v : Value} {q : Int × InR} (hv : Num3 W v q (fun k => w.heap.size ≤ k ∧ k < W.heap.size))
    (hgr : W.grownBy w3 (if p = 0 then rv0 else rv1).ownBlock) (hown : w3.ownsRow 0 102 1 (.slice (some ⟨g, 0, none⟩) ((if p = 0 then A else B).length + 1) c) ((if p = 0 then A else B).length + 1) ((if p = 0 then vs0 else vs1) ++ [v]))
    (hat : (if p = 0 then rv0 else rv1).ownBlock = some g ∨ W.heap.size ≤ g) :
    ∃ X', ROp f (w3.setCell ⟨rb, p, none⟩ (.slice (some ⟨g, 0, none⟩) ((if p = 0 then A else B).length + 1) c)) m r l0 l1 sv lv S rb (if p = 0 then .slice (some ⟨g, 0, none⟩) ((if p = 0 then A else B).length + 1) c else rv0) (if p = 0 then rv1 else .slice (some ⟨g, 0, none⟩) ((if p = 0 then A else B).length + 1) c)
      (if p = 0 then A ++ [q] else A) (if p = 0 then B else B ++ [q]) (if p = 0 then vs0 ++ [v] else vs0) (if p = 0 then vs1 else vs1 ++ [v]) X' := by
  have hWs := hW.size
  have hgs := hgr.size
  have hlt := h.lt
  have hglt : g < w3.heap.size := by
    rcases hown.2 with ⟨h0, -⟩ | ⟨g', cap', cur, hv', _, hcc, _⟩
    · cases h0
    · simp only [Value.slice.injEq, Option.some.injEq, Addr.mk.injEq] at hv'
      have := (Array.getElem?_eq_some_iff.1 hcc).1
      omega
  obtain ⟨Z, hZ⟩ : ∃ Z, w3.setCell ⟨rb, p, none⟩ (.slice (some ⟨g, 0, none⟩) ((if p = 0 then A else B).length + 1) c) = Z := ⟨_, rfl⟩
  have hset : ∀ k, k ≠ rb → Z.heap[k]? = w3.heap[k]? := fun k hk => by rw [← hZ]; exact Below.heap_setCell _ _ _ _ (by exact hk)
  have hZs : Z.heap.size = w3.heap.size := by rw [← hZ]; simp
  -- the row's own block
  have hrb0 : rv0.ownBlock ≠ some rb := fun e => by
    obtain ⟨cur, hc⟩ := h.row0.type e
    exact far hc h.box (by decide) rfl
  have hrb1 : rv1.ownBlock ≠ some rb := fun e => by
    obtain ⟨cur, hc⟩ := h.row1.type e
    exact far hc h.box (by decide) rfl
  have hrbp : (if p = 0 then rv0 else rv1).ownBlock ≠ some rb := by split; exact hrb0; exact hrb1
  have hkeep : ∀ k, k < W.heap.size → k ≠ rb → (if p = 0 then rv0 else rv1).ownBlock ≠ some k → Z.heap[k]? = W.heap[k]? := fun k hk h1 h2 => (hset k h1).trans (hgr.block k hk (fun e => h2 e.symm))
  have hkeepX : ∀ k, X k → k ≠ rb → (if p = 0 then rv0 else rv1).ownBlock ≠ some k → Z.heap[k]? = w.heap[k]? := fun k hk h1 h2 => (hkeep k (by have := hlt k hk; omega) h1 h2).trans (hW.block k (hlt k hk))
  have hrblt := hlt rb h.mem
  have hgne : g ≠ rb := by
    rcases hat with e | e
    · intro e2; rw [e2] at e; exact hrbp e
    · omega
  have htypeP : ∀ k, (if p = 0 then rv0 else rv1).ownBlock = some k → X k ∧ ∃ cur, w.heap[k]? = some (.cells cur 102) := fun k hk => by
    split at hk
    · exact ⟨h.row0.mem k hk, h.row0.type hk⟩
    · exact ⟨h.row1.mem k hk, h.row1.type hk⟩
  have hZb : Z.heap[rb]? = some (.cells (#[rv0, rv1].setIfInBounds p (.slice (some ⟨g, 0, none⟩) ((if p = 0 then A else B).length + 1) c)) 123) := by
    rw [← hZ]
    have h1 : w3.heap[rb]? = some (.cells #[rv0, rv1] 123) := (hgr.block rb (by omega) (fun e => hrbp e.symm)).trans ((hW.block rb hrblt).trans h.box)
    exact cells_set h1 p _
  -- numbers stay
  have hnum : ∀ k cur, X k → w.heap[k]? = some (.cells cur 2) → Z.heap[k]? = w.heap[k]? := fun k cur hk hc => hkeepX k hk (fun e => far hc h.box (by decide) e) (fun e => by
    obtain ⟨-, cur', hc'⟩ := htypeP k e
    exact far hc hc' (by decide) rfl)
  obtain ⟨X', hX'⟩ : ∃ X' : Nat → Prop, X' = (fun k => (X k ∨ (w.heap.size ≤ k ∧ k < W.heap.size)) ∨ (W.heap.size ≤ k ∧ k < Z.heap.size)) := ⟨_, rfl⟩
  have hXX : ∀ k, X k → X' k := fun k hk => by rw [hX']; exact .inl (.inl hk)
  have hXg : X' g := by
    rcases hat with e | e
    · exact hXX g (htypeP g e).1
    · rw [hX']; exact .inr ⟨e, by omega⟩
  have hinp : RInK f Z m r l0 l1 sv lv S X' := by
    have h1 := h.inp.grow hW
    have ho : Only (fun k => k = rb ∨ (if p = 0 then rv0 else rv1).ownBlock = some k) W Z := by
      refine ⟨?_, ?_, ?_, by omega, fun k hk hn => hkeep k hk (fun e => hn (.inl e)) (fun e => hn (.inr e))⟩
      · rw [← hZ]; exact hgr.os
      · rw [← hZ]; exact hgr.tape
      · rw [← hZ]; exact hgr.output
    have h2 := h1.only ho (fun k hk => by
      rcases hk with e | e
      · rw [e]; exact ⟨.inl h.mem, h.new rb h.mem⟩
      · exact ⟨.inl (htypeP k e).1, h.new k (htypeP k e).1⟩)
    exact h2.less (fun k hk => by rw [hX'] at hk; exact hk)
  have hnew : ∀ k, X' k → ¬ f.K k := fun k hk => by
    rw [hX'] at hk
    rcases hk with (hk | hk) | hk
    · exact h.new k hk
    · exact h.inp.old.fresh hk.1
    · exact h.inp.old.fresh (by omega)
  have hvZ : Num3 Z v q X' := hv.kept (fun k cur hk hc => hkeep k hk.2 (fun e => by omega) (fun e => by
      have := hlt k (htypeP k e).1
      omega)) (fun k hk => by rw [hX']; exact .inl (.inr hk))
  have hnewrow : ∀ (rv : Value) (C : List (Int × InR)) (vs : List Value), RowOf w rv C vs X → w3.ownsRow 0 102 1 (.slice (some ⟨g, 0, none⟩) (C.length + 1) c) (C.length + 1) (vs ++ [v]) → RowOf Z (.slice (some ⟨g, 0, none⟩) (C.length + 1) c) (C ++ [q]) (vs ++ [v]) X' := fun rv C vs hr ho => by
    refine ⟨?_, fun b hb => ?_, (hr.nums.kept hnum hXX).snoc hr.len hvZ⟩
    · rw [List.length_append]
      exact own_kept ho (fun b hb => by
        simp only [Value.ownBlock, Option.some.injEq] at hb
        subst hb
        exact hset _ hgne)
    · simp only [Value.ownBlock, Option.some.injEq] at hb
      subst hb
      exact hXg
  refine ⟨X', ?_⟩
  rw [hZ]
  rcases (show p = 0 ∨ p = 1 by omega) with rfl | rfl
  · exact ⟨hinp, hnew, hXX rb h.mem, hZb, hnewrow rv0 A vs0 h.row0 hown, ⟨own_kept h.row1.own (fun b hb => hkeepX b (h.row1.mem b hb) (fun e => hrb1 (e ▸ hb)) (fun e => h.dis b e hb)), fun b hb => hXX b (h.row1.mem b hb), h.row1.nums.kept hnum hXX⟩, fun b hb e => by
      simp only [if_true, Value.ownBlock, Option.some.injEq] at hb
      subst hb
      rcases hat with e2 | e2
      · exact h.dis _ e2 e
      · have := hlt _ (h.row1.mem _ e)
        omega⟩
  · exact ⟨hinp, hnew, hXX rb h.mem, hZb, ⟨own_kept h.row0.own (fun b hb => hkeepX b (h.row0.mem b hb) (fun e => hrb0 (e ▸ hb)) (fun e => h.dis b hb e)), fun b hb => hXX b (h.row0.mem b hb), h.row0.nums.kept hnum hXX⟩, hnewrow rv1 B vs1 h.row1 hown, fun b hb e => by
      simp only [Nat.one_ne_zero, if_false, Value.ownBlock, Option.some.injEq] at e
      have hb : rv0.ownBlock = some b := hb
      subst e
      rcases hat with e2 | e2
      · exact h.dis _ hb e2
      · have := hlt _ (h.row0.mem _ hb)
        omega⟩

/-- A block of another type is written. -/
theorem ROp.other {f : Fr} {w w' : World} {m r l0 l1 : Nat} {sv lv : Value} {S : InSt} {rb ab : Nat} {rv0 rv1 : Value} {A B : List (Int × InR)} {vs0 vs1 : List Value} {X : Nat → Prop} (h : ROp f w m r l0 l1 sv lv S rb rv0 rv1 A B vs0 vs1 X) (hX : X ab)
    {cur : Array Value} (hab : w.heap[ab]? = some (.cells cur 129)) (ho : Only (fun k => k = ab) w w') : ROp f w' m r l0 l1 sv lv S rb rv0 rv1 A B vs0 vs1 X := by
  have hk : ∀ k, X k → k ≠ ab → w'.heap[k]? = w.heap[k]? := fun k hk hne => ho.block k (h.lt k hk) hne
  have hrow : ∀ {rv : Value} {C : List (Int × InR)} {vs : List Value}, RowOf w rv C vs X → RowOf w' rv C vs X := fun hr => ⟨own_kept hr.own (fun g hg => hk g (hr.mem g hg) (fun e => by
    obtain ⟨c, hc⟩ := hr.type hg
    exact far hc hab (by decide) e)), hr.mem, hr.nums.kept (fun k c hk' hc => hk k hk' (fun e => far hc hab (by decide) e)) (fun _ h => h)⟩
  exact ⟨(h.inp.only ho (fun k e => by rw [show k = ab from e]; exact ⟨hX, h.new ab hX⟩)).less (fun k hk => .inl hk), h.new, h.mem, (hk rb h.mem (fun e => far h.box hab (by decide) e)).trans h.box, hrow h.row0, hrow h.row1, h.dis⟩

/-- Behind the append of a record, and the store of the row. -/
theorem RInAt.rowAt {f : Fr} {w W w3 : World} {m r l0 l1 g cap : Nat} {sv lv : Value} {S : InSt} {x : InR} {F G0 G1 N : Nat → Prop} (h : RInAt f w m r l0 l1 sv lv S F G0 G1 N)
    (hW : Below w.heap.size w W) (hgr : W.grownBy w3 lv.ownBlock) (hown : w3.ownsRow 0 32 3 (.slice (some ⟨g, 0, none⟩) (S.rs.length + 1) cap) (S.rs.length + 1) (inCells S.rs ++ [.int .i64 x.part, .int .i64 x.key, .int .i64 x.val]))
    (hat : lv.ownBlock = some g ∨ W.heap.size ≤ g) :
    RInAt f (w3.setCell ⟨m, 1, none⟩ (.slice (some ⟨g, 0, none⟩) (S.rs.length + 1) cap)) m r l0 l1 sv (.slice (some ⟨g, 0, none⟩) (S.rs.length + 1) cap) (S.row x) F G0 G1 (fun k => N k ∨ k = g) ∧
    Only N w (w3.setCell ⟨m, 1, none⟩ (.slice (some ⟨g, 0, none⟩) (S.rs.length + 1) cap)) := by
  have htype : ∀ {rv : Value} {e : TypeId} {sz n : Nat} {xs : List Value}, w.ownsRow 0 e sz rv n xs → ∀ b, rv.ownBlock = some b → ∃ cur, w.heap[b]? = some (.cells cur e) := fun ho b hb => by
    rcases ho.2 with ⟨h0, -⟩ | ⟨g', cap', cur, hv, _, hcc, _⟩
    · rw [h0] at hb; cases hb
    · rw [hv] at hb
      simp only [Value.ownBlock, Option.some.injEq] at hb
      subst hb
      exact ⟨_, hcc⟩
  have hlne : lv.ownBlock ≠ some m := fun e => by
    obtain ⟨cur, hc⟩ := htype h.row m e
    exact far hc h.cell (by decide) rfl
  have hsne : sv.ownBlock ≠ some m := fun e => by
    obtain ⟨cur, hc⟩ := htype h.logs m e
    exact far hc h.cell (by decide) rfl
  have hglt : g < w3.heap.size := by
    rcases hown.2 with ⟨h0, -⟩ | ⟨g', cap', cur, hv, _, hcc, _⟩
    · cases h0
    · simp only [Value.slice.injEq, Option.some.injEq, Addr.mk.injEq] at hv
      have := (Array.getElem?_eq_some_iff.1 hcc).1
      omega
  have hlt := h.lt m h.mem
  have hWs := hW.size
  have hgs := hgr.size
  have hkeep : ∀ k, k < w.heap.size → some k ≠ lv.ownBlock → w3.heap[k]? = w.heap[k]? := fun k hk hne => (hgr.block k (by omega) hne).trans (hW.block k hk)
  have hc3 : w3.heap[m]? = some (.cells #[sv, lv] 64) := (hkeep m hlt (Ne.symm hlne)).trans h.cell
  have hgl : g ≠ m := by
    rcases hat with h | h
    · intro e; rw [e] at h; exact hlne h
    · omega
  have hset : ∀ k, k ≠ m → (w3.setCell ⟨m, 1, none⟩ (.slice (some ⟨g, 0, none⟩) (S.rs.length + 1) cap)).heap[k]? = w3.heap[k]? := fun k hk => Below.heap_setCell _ _ _ _ (by exact hk)
  have ho : Only N w (w3.setCell ⟨m, 1, none⟩ (.slice (some ⟨g, 0, none⟩) (S.rs.length + 1) cap)) := by
    refine ⟨hgr.os.trans hW.os, hgr.tape.trans hW.tape, hgr.output.trans hW.output, by simp; omega, fun k hk hs => ?_⟩
    rw [hset k (fun e => hs (e ▸ h.mem)), hkeep k hk (fun e => hs (h.own k (.inr e.symm)))]
  have hgo : ∀ k, (N k ∨ k = g) → N k ∨ w.heap.size ≤ k := fun k hk => by
    rcases hk with hk | hk
    · exact .inl hk
    · rcases hat with h1 | h1
      · exact .inl (hk ▸ h.own g (.inr h1))
      · right; omega
  refine ⟨⟨h.old.only ho (fun i hi => h.new i (.inr (.inr (.inr hi)))), h.disk.only ho h.fn, h.log0.only ho h.g0n, h.log1.only ho h.g1n, ?_, ?_, ?_, .inl h.mem, fun b hb => ?_, fun k hk => ?_, h.f0, h.f1, dis_new' hgo h.fn h.disk.lt, h.g01, dis_new' hgo h.g0n h.log0.lt, dis_new' hgo h.g1n h.log1.lt, fun k hk => ?_⟩, ho⟩
  · rw [cells_set hc3]
    rfl
  · exact own_kept h.logs (fun b hb => (hset b (fun e => hsne (e ▸ hb))).trans (hkeep b (h.lt b (h.own b (.inl hb))) (fun e => by
      obtain ⟨c1, hc1⟩ := htype h.logs b hb
      obtain ⟨c2, hc2⟩ := htype h.row b e.symm
      exact far hc1 hc2 (by decide) rfl)))
  · show World.ownsRow _ 0 _ 3 _ (S.rs ++ [x]).length (inCells (S.rs ++ [x]))
    rw [List.length_append, inCells_snoc]
    exact own_kept hown (fun b hb => by
      simp only [Value.ownBlock, Option.some.injEq] at hb
      subst hb
      exact hset _ hgl)
  · rcases hb with hb | hb
    · exact .inl (h.own b (.inl hb))
    · simp only [Value.ownBlock, Option.some.injEq] at hb
      exact .inr hb.symm
  · simp only [World.size_setCell]
    rcases hk with hk | hk
    · have := h.lt k hk; omega
    · omega
  · rcases hk with hk | hk | hk | hk
    · exact h.new k (.inl hk)
    · exact h.new k (.inr (.inl hk))
    · exact h.new k (.inr (.inr (.inl hk)))
    · rcases hgo k hk with e | e
      · exact h.new k (.inr (.inr (.inr e)))
      · exact h.old.fresh e

theorem ROp.row {f : Fr} {w W w3 : World} {m r l0 l1 g cap : Nat} {sv lv : Value} {S : InSt} {x : InR} {rb : Nat} {rv0 rv1 : Value} {A B : List (Int × InR)} {vs0 vs1 : List Value} {X : Nat → Prop} (h : ROp f w m r l0 l1 sv lv S rb rv0 rv1 A B vs0 vs1 X)
    (hW : Below w.heap.size w W) (hgr : W.grownBy w3 lv.ownBlock) (hown : w3.ownsRow 0 32 3 (.slice (some ⟨g, 0, none⟩) (S.rs.length + 1) cap) (S.rs.length + 1) (inCells S.rs ++ [.int .i64 x.part, .int .i64 x.key, .int .i64 x.val]))
    (hat : lv.ownBlock = some g ∨ W.heap.size ≤ g) :
    ROp f (w3.setCell ⟨m, 1, none⟩ (.slice (some ⟨g, 0, none⟩) (S.rs.length + 1) cap)) m r l0 l1 sv (.slice (some ⟨g, 0, none⟩) (S.rs.length + 1) cap) (S.row x) rb rv0 rv1 A B vs0 vs1 X ∧
    ∀ k, X k → (w3.setCell ⟨m, 1, none⟩ (.slice (some ⟨g, 0, none⟩) (S.rs.length + 1) cap)).heap[k]? = w.heap[k]? := by
  obtain ⟨F, G0, G1, N, hi, h2⟩ := h.inp
  obtain ⟨h3, h4⟩ := hi.rowAt (x := x) hW hgr hown hat
  have hs := hW.size
  have hs4 := h4.size
  have hk : ∀ k, X k → (w3.setCell ⟨m, 1, none⟩ (.slice (some ⟨g, 0, none⟩) (S.rs.length + 1) cap)).heap[k]? = w.heap[k]? := fun k hk => h4.block k (h2 k hk).1 (h2 k hk).2.2.2.2
  refine ⟨⟨⟨F, G0, G1, _, h3, fun k hk => ?_⟩, h.new, h.mem, (hk rb h.mem).trans h.box, h.row0.kept hk (fun _ h => h), h.row1.kept hk (fun _ h => h), h.dis⟩, hk⟩
  obtain ⟨a1, a2, a3, a4, a5⟩ := h2 k hk
  refine ⟨by omega, a2, a3, a4, fun e => ?_⟩
  rcases e with e | e
  · exact a5 e
  · rcases hat with e2 | e2
    · exact a5 (hi.own k (.inr (e ▸ e2)))
    · omega

/-- The frames of a part's log. -/
theorem RInLive.log {f : Fr} {w : World} {m r l0 l1 : Nat} {sv lv : Value} {S : InSt} (h : RInLive f w m r l0 l1 sv lv S) (p : Nat) (hp : p < 2) :
    ∃ fl, w.cell? ⟨lpOf l0 l1 p, 2, none⟩ = some fl ∧ lpOf l0 l1 p < w.heap.size ∧ Reads w fl (if p = 0 then S.L0 else S.L1).rs.length (rfCells (if p = 0 then S.L0 else S.L1).rs) := by
  obtain ⟨F, G0, G1, N, h⟩ := h
  rcases (show p = 0 ∨ p = 1 by omega) with rfl | rfl
  · obtain ⟨v, h1, h2, -⟩ := h.log0.cells
    exact ⟨v, cells_at h1 2 _ rfl, h.log0.lt _ h.log0.mem, Reads.own h2⟩
  · obtain ⟨v, h1, h2, -⟩ := h.log1.cells
    exact ⟨v, cells_at h1 2 _ rfl, h.log1.lt _ h.log1.mem, Reads.own h2⟩

/-- What the loads of a round find. -/
theorem ROp.at' {f : Fr} {w : World} {m r l0 l1 : Nat} {sv lv : Value} {S : InSt} {rb : Nat} {rv0 rv1 : Value} {A B : List (Int × InR)} {vs0 vs1 : List Value} {X : Nat → Prop} (h : ROp f w m r l0 l1 sv lv S rb rv0 rv1 A B vs0 vs1 X) (p : Nat) (hp : p < 2) :
    w.cell? ⟨rb, p, none⟩ = some (if p = 0 then rv0 else rv1) ∧ rb < w.heap.size ∧ (∃ la lc, (if p = 0 then rv0 else rv1) = .slice la (if p = 0 then A else B).length lc) ∧
    ∀ (j : Nat) q, (if p = 0 then A else B)[j]? = some q → ∃ g lc b c, (if p = 0 then rv0 else rv1) = .slice (some ⟨g, 0, none⟩) (if p = 0 then A else B).length lc ∧ g < w.heap.size ∧ w.cell? ⟨g, j, none⟩ = some (.slice (some ⟨b, 0, none⟩) 3 c) ∧ b < w.heap.size ∧
      w.cell? ⟨b, 0, none⟩ = some (.int .i64 q.1) ∧ w.cell? ⟨b, 1, none⟩ = some (.int .i64 q.2.key) ∧ w.cell? ⟨b, 2, none⟩ = some (.int .i64 q.2.val) ∧ ∃ cur, w.heap[b]? = some (.cells cur 2) := by
  have hrow : ∀ {rv : Value} {C : List (Int × InR)} {vs : List Value}, RowOf w rv C vs X → (∃ la lc, rv = .slice la C.length lc) ∧ ∀ (j : Nat) q, C[j]? = some q → ∃ g lc b c, rv = .slice (some ⟨g, 0, none⟩) C.length lc ∧ g < w.heap.size ∧ w.cell? ⟨g, j, none⟩ = some (.slice (some ⟨b, 0, none⟩) 3 c) ∧ b < w.heap.size ∧
      w.cell? ⟨b, 0, none⟩ = some (.int .i64 q.1) ∧ w.cell? ⟨b, 1, none⟩ = some (.int .i64 q.2.key) ∧ w.cell? ⟨b, 2, none⟩ = some (.int .i64 q.2.val) ∧ ∃ cur, w.heap[b]? = some (.cells cur 2) := fun {rv C vs} hr => by
    refine ⟨(Reads.own hr.own).shape, fun j q hq => ?_⟩
    obtain ⟨v, hv, b, c, rfl, hb, e0, e1, e2, cur, hc⟩ := hr.nums j q hq
    rcases hr.own.2 with ⟨-, h0⟩ | ⟨g, cap, cur', rfl, -, hcc, -, -, h5, h6⟩
    · have := (List.getElem?_eq_some_iff.1 hq).1
      omega
    · refine ⟨g, cap, b, c, rfl, (Array.getElem?_eq_some_iff.1 hcc).1, cells_at hcc j _ ?_, (Array.getElem?_eq_some_iff.1 hc).1, e0, e1, e2, cur, hc⟩
      have hlt := (List.getElem?_eq_some_iff.1 hq).1
      rw [← h6, List.getElem?_take_of_lt (by omega)] at hv
      simpa using hv
  rcases (show p = 0 ∨ p = 1 by omega) with rfl | rfl
  · exact ⟨cells_at h.box 0 _ rfl, h.lt rb h.mem, hrow h.row0⟩
  · exact ⟨cells_at h.box 1 _ rfl, h.lt rb h.mem, hrow h.row1⟩

end Go.Proofs.Ytllecjhfbojgcaa

/-
  The reference's Open of an input walked: any files.
-/
namespace Go.Proofs.Ytllecjhfbojgcaa
open Go.RowKit
set_option maxRecDepth 20000

def NumsOwn (l : List UInt8) (w : World) (e : Ending) (w' : World) : Prop :=
  ∃ v, e = .returned (.tuple #[v, .int .i64 (Cl.nums l).2]) ∧ w'.ownsRow w.heap.size 2 1 v (Cl.nums l).1.length (ints (Cl.nums l).1) ∧ Below w.heap.size w w'
theorem nums_own {l : List UInt8} {w w' : World} {v : Value} {r : List Int} {x : Int} (h : (r, x) = Cl.nums l) (hr : w'.ownsRow w.heap.size 2 1 v r.length (ints r)) (hb : Below w.heap.size w w') : NumsOwn l w (.returned (.tuple #[v, .int .i64 x])) w' := by
  refine ⟨v, ?_, ?_, hb⟩
  · rw [← h]
  · rw [← h]; exact hr
theorem refnumbers_own (s : ByteArray) (w : World) (hs : s.size ≤ 5000000) :
    Calls Try.prog 64 #[.string s] w (NumsOwn s.data.toList w) := by
  obtain ⟨i0, hi0, hz0, hz1, hz2⟩ := info_parts infoI64
  go_enter Try.func64, Try.ntmps64
  go_wp2_with fail
  go_loopw [4, 5, 6, 7, 8, 13] (fun v i _ _ _ _ wr => ∃ (p : Nat) (acc : List Int) (f : Nat), i = .int .i64 p ∧ p ≤ s.size ∧ acc.length ≤ p ∧ Hid (s.size - p < f ∧ Cl.numsA f (s.data.toList.drop p) acc = Cl.nums s.data.toList) ∧ wr.ownsRow w.heap.size 2 1 v acc.length (ints acc) ∧ Below w.heap.size w wr) (fun _ i _ _ _ _ _ => s.size - (intOf i).toNat)
  case atStart => exact ⟨0, [], s.size + 1, rfl, by omega, by simp, Lib.hid ⟨by omega, by unfold Cl.nums; rw [len_data]; rfl⟩, World.ownsRow_nil _ _ _ _, Below.refl _ _⟩
  case round =>
    obtain ⟨p, acc, f, rfl, hp, hacc, HF, hown, hb⟩ := hrel
    obtain ⟨f', rfl⟩ : ∃ f', f = f' + 1 := ⟨f - 1, by have := HF.out.1; omega⟩
    by_cases hemp : p < s.size
    · obtain ⟨tb, htb⟩ : ∃ tb : ByteArray, s.extract p s.size = tb := ⟨_, rfl⟩
      have htd : tb.data.toList = s.data.toList.drop p := by rw [← htb, drop_data]
      have hts : tb.size = s.size - p := by rw [← htb, extract_size]
      have hne := data_ne tb (by omega)
      have hf2 := HF.out
      rw [← htd] at hf2
      obtain ⟨n, k, x, hnk⟩ : ∃ n k x, Cl.take tb.data.toList = (n, k, x) := ⟨_, _, _, rfl⟩
      have HT := Lib.hid hnk
      have HNE := Lib.hid hne
      have HTD := Lib.hid htd
      have HTS := Lib.hid hts
      have HTB := Lib.hid htb
      have HF2 := Lib.hid hf2
      clear hne hnk htd hts htb hf2 HF
      go_wp2_with fail
      rw [HTB.out]
      refine (reftake_says tb n k x _ HT.out).mono ?_
      rintro e w' ⟨rfl, rfl⟩
      by_cases hx : x = 0
      · subst hx
        obtain ⟨-, hkl, hk1, -, -, -, -, hn1, hn2⟩ := Cl.take_ok _ _ _ HT.out
        rw [len_data, HTS.out] at hkl
        have hstep := Cl.numsA_ok f' tb.data.toList acc HNE.out (by rw [HT.out])
        rw [HT.out] at hstep
        simp only at hstep
        rw [HF2.out.2] at hstep
        have HS := Lib.hid hstep
        clear hstep hn1 hn2
        have hpk : p + k ≤ s.size := by omega
        clear hkl
        go_wp2_with ((at_builtin; refine wpList_append_own _ rfl _ _ 102 rfl w.heap.size 2 i0 (.int .i64 0) 1 8 Try.underlying102 hi0 hz0 hz1 hz2 rfl (by decide) _ _ _ rfl (hown.alloc _) ⟨wr.heap.size, 0, none⟩ 1 1 [.int .i64 n] rfl rfl ?c1 ?c2 ?c3 ?c4 ?c5 ?_))
        case c1 => exact cell_one_new _ _ _
        case c2 => simp [Value.oneCell']
        case c3 => unfold maxLen; omega
        case c4 => omega
        case c5 => have := hb.size; simp; omega
        intro v' w' hown' hgr _
        have hb' := below_pushed hb hown _ hgr
        clear hgr
        go_wp2
        go_roundw
        case rel =>
          refine ⟨p + k, acc ++ [n], f', by go_num, hpk, by rw [List.length_append]; simp; omega, Lib.hid ⟨?_, ?_⟩, ?_, hb'⟩
          · have := HF2.out.1; omega
          · rw [← List.drop_drop, ← HTD.out]; exact HS.out.symm
          · rw [List.length_append, ← ints_snoc]; exact hown'
        case measure => simp [intOf]; omega
      · have hxb : (x != 0) = true := by simpa using hx
        have hbad := Cl.numsA_bad f' tb.data.toList acc HNE.out (by rw [HT.out]; exact hx)
        rw [HT.out] at hbad
        rw [HF2.out.2] at hbad
        have HN := Lib.hid hbad
        clear hbad hx
        go_wp2_with fail
        go_ret2
        exact nums_own HN.out.symm (World.ownsRow_nil _ _ _ _) hb
    · have hd : s.data.toList.drop p = [] := List.drop_of_length_le (by rw [len_data]; omega)
      have hfin : (acc, (0 : Int)) = Cl.nums s.data.toList := by rw [← HF.out.2, hd]; exact (Cl.numsA_nil f' acc).symm
      have HN := Lib.hid hfin
      clear hfin hd
      go_wp2_with fail
      go_ret2
      exact nums_own HN.out hown hb

theorem refnumbers_owns (s : ByteArray) (r : List Int) (x : Int) (w : World) (hs : s.size ≤ 5000000) (h : Cl.nums s.data.toList = (r, x)) :
    Calls Try.prog 64 #[.string s] w fun e w' => ∃ v, e = .returned (.tuple #[v, .int .i64 x]) ∧ w'.ownsRow w.heap.size 2 1 v r.length (ints r) ∧ Below w.heap.size w w' := by
  refine (refnumbers_own s w hs).mono fun e w' ⟨v, h1, h2, h3⟩ => ⟨v, ?_, ?_, h3⟩
  · rw [h1, h]
  · rw [h] at h2; exact h2

/-- The reference's disk in a frame. -/
def RLiveF (f : Fr) (w : World) (r : Nat) (D : Dk.St) : Prop := ∃ G, RDAt w r D G ∧ (∀ k, G k → ¬ f.K k) ∧ Since f w
theorem RLiveF.turned {f : Fr} {w w' : World} {r : Nat} {D' : Dk.St} {F : Nat → Prop} (hn : ∀ k, F k → ¬ f.K k) (hs : Since f w) (h : RTurned w w' r D' F) : RLiveF f w' r D' := by
  obtain ⟨F', ho, hd, hF⟩ := h
  refine ⟨F', hd, fun k hk => ?_, hs.only ho hn⟩
  rcases hF k hk with h | h
  · exact hn k h
  · exact hs.fresh h
theorem RInLive.liveF {f : Fr} {w : World} {m r l0 l1 : Nat} {sv lv : Value} {S : InSt} (h : RInLive f w m r l0 l1 sv lv S) : RLiveF f w r S.D := by
  obtain ⟨F, G0, G1, N, h⟩ := h
  exact ⟨F, h.disk, fun k hk => h.new k (.inl hk), h.old⟩
/-- What the reference's Open says. -/
def RInSays (f : Fr) (r : Nat) (D : Dk.St) (e : Ending) (w' : World) : Prop :=
  ∃ x D' o, Opened D x D' o ∧ ((o = none ∧ e = .returned (.tuple #[.pointer none, .int .i64 x]) ∧ RLiveF f w' r D') ∨ ∃ S m l0 l1 sv lv, o = some S ∧ x = 0 ∧ S.D = D' ∧ e = .returned (.tuple #[ptr m 0, .int .i64 0]) ∧ RInLive f w' m r l0 l1 sv lv S)

theorem infoLogP : (Try.prog.info? 119).map (fun i => (i.zero, i.size, i.bytes)) = some (some (.pointer none), 1, 8) := by kernel_rfl
theorem infoNums : (Try.prog.info? 102).map (fun i => (i.zero, i.size, i.bytes)) = some (some (.slice none 0 0), 1, 24) := by kernel_rfl

/-- How far the rows are read: k parts whole. -/
def DecTo (R0 R1 : List Lg.Rec) (k : Nat) (A B : List (Int × InR)) : Prop := RowsOk 0 A ∧ RowsOk 1 B ∧ rowsR A = (if k = 0 then [] else R0) ∧ rowsR B = (if k ≤ 1 then [] else R1)
/-- In the midst of part p. -/
def DecAt (R0 R1 : List Lg.Rec) (p j : Nat) (A B : List (Int × InR)) : Prop := RowsOk 0 A ∧ RowsOk 1 B ∧ rowsR A = (if p = 0 then R0.take j else R0) ∧ rowsR B = (if p = 0 then [] else R1.take j)
theorem DecTo.start (R0 R1 : List Lg.Rec) : DecTo R0 R1 0 [] [] := ⟨fun q h => (by cases h), fun q h => (by cases h), rfl, rfl⟩
theorem DecTo.into {R0 R1 : List Lg.Rec} {k : Nat} {A B : List (Int × InR)} (h : DecTo R0 R1 k A B) (hk : k < 2) : DecAt R0 R1 k 0 A B := by
  obtain ⟨h1, h2, h3, h4⟩ := h
  rcases (show k = 0 ∨ k = 1 by omega) with rfl | rfl
  · exact ⟨h1, h2, by rw [h3]; rfl, by rw [h4]; rfl⟩
  · exact ⟨h1, h2, by rw [h3]; rfl, by rw [h4]; rfl⟩
theorem DecAt.done {R0 R1 : List Lg.Rec} {k : Nat} {A B : List (Int × InR)} (h : DecAt R0 R1 k (if k = 0 then R0 else R1).length A B) (hk : k < 2) : DecTo R0 R1 (k + 1) A B := by
  obtain ⟨h1, h2, h3, h4⟩ := h
  rcases (show k = 0 ∨ k = 1 by omega) with rfl | rfl
  · refine ⟨h1, h2, ?_, ?_⟩
    · rw [h3]; exact List.take_length
    · rw [h4]; rfl
  · refine ⟨h1, h2, ?_, ?_⟩
    · rw [h3]; rfl
    · rw [h4]; exact List.take_length
theorem DecAt.next {R0 R1 : List Lg.Rec} {k j : Nat} {A B : List (Int × InR)} (h : DecAt R0 R1 k j A B) (hk : k < 2) {q : Int × InR} (hq : q.2.part = (k : Int) ∧ Cl.In64 q.1 ∧ Cl.In64 q.2.key ∧ Cl.In64 q.2.val) (hr : (if k = 0 then R0 else R1)[j]? = some (recI q)) :
    DecAt R0 R1 k (j + 1) (if k = 0 then A ++ [q] else A) (if k = 0 then B else B ++ [q]) := by
  obtain ⟨h1, h2, h3, h4⟩ := h
  have hsn : ∀ (p : Int) (C : List (Int × InR)), RowsOk p C → q.2.part = p → RowsOk p (C ++ [q]) := fun p C hC hp y hy => by
    rcases List.mem_append.1 hy with hy | hy
    · exact hC y hy
    · rw [List.mem_singleton.1 hy]; exact ⟨hp, hq.2⟩
  have hrw : ∀ C : List (Int × InR), rowsR (C ++ [q]) = rowsR C ++ [recI q] := fun C => by simp [rowsR]
  rcases (show k = 0 ∨ k = 1 by omega) with rfl | rfl
  · refine ⟨hsn 0 A h1 hq.1, h2, ?_, h4⟩
    have hr : R0[j]? = some (recI q) := hr
    show rowsR (A ++ [q]) = R0.take (j + 1)
    rw [hrw, h3, List.take_add_one, hr]
    rfl
  · refine ⟨h1, hsn 1 B h2 hq.1, h3, ?_⟩
    have hr : R1[j]? = some (recI q) := hr
    show rowsR (B ++ [q]) = R1.take (j + 1)
    rw [hrw, h4, List.take_add_one, hr]
    rfl

/-- Has the row's next one this number? -/
def hdIs (C : List (Int × InR)) (c n : Nat) : Bool := match C[c]? with
  | some q => q.1 == (n : Int)
  | none => false
theorem hdIs_iff {C : List (Int × InR)} {c n : Nat} : hdIs C c n = true ↔ ∃ x, C[c]? = some ((n : Int), x) := by
  unfold hdIs
  cases h : C[c]? with
  | none => simp
  | some q =>
    obtain ⟨i, x⟩ := q
    simp
/-- The part that is picked when k of them were looked at. -/
def pickP (A B : List (Int × InR)) (a b n k : Nat) : Int := if 2 ≤ k ∧ hdIs B b n = true then 1 else if 1 ≤ k ∧ hdIs A a n = true then 0 else -1
theorem pickP_step {A B : List (Int × InR)} {a b n k : Nat} (hk : k < 2) : pickP A B a b n (k + 1) = if hdIs (if k = 0 then A else B) (if k = 0 then a else b) n = true then (k : Int) else pickP A B a b n k := by
  unfold pickP
  rcases (show k = 0 ∨ k = 1 by omega) with rfl | rfl
  · simp
  · simp only [Nat.one_ne_zero, if_false]
    by_cases h : hdIs B b n = true
    · simp [h]
    · simp [h]
theorem pickP_end {A B : List (Int × InR)} {a b n : Nat} : (∃ p : Nat, p < 2 ∧ pickP A B a b n 2 = (p : Int) ∧ hdIs (if p = 0 then A else B) (if p = 0 then a else b) n = true) ∨ (pickP A B a b n 2 = -1 ∧ hdIs A a n = false ∧ hdIs B b n = false) := by
  unfold pickP
  by_cases hB : hdIs B b n = true
  · exact .inl ⟨1, by omega, by simp [hB], hB⟩
  · by_cases hA : hdIs A a n = true
    · exact .inl ⟨0, by omega, by simp [hA, hB], hA⟩
    · exact .inr ⟨by simp [hA, hB], by simpa using hA, by simpa using hB⟩
def cellN (w : World) (b i : Nat) : Nat := match w.cell? ⟨b, i, none⟩ with
  | some (.int _ n) => n.toNat
  | _ => 0

theorem cellN_of {w : World} {ab : Nat} {a b : Nat} {T : TypeId} (h : w.heap[ab]? = some (.cells #[.int .i64 (a : Int), .int .i64 (b : Int)] T)) : cellN w ab 0 = a ∧ cellN w ab 1 = b := by
  have h0 := cells_at h 0 _ rfl
  have h1 := cells_at h 1 _ rfl
  unfold cellN
  rw [h0, h1]
  exact ⟨rfl, rfl⟩

set_option maxHeartbeats 16000000 in
set_option maxRecDepth 100000 in
theorem rinopen_all (f : Fr) (w : World) (r : Nat) (D : Dk.St) (hL : RLiveF f w r D) (hm : D.loose.length ≤ 900000000) :
    Calls Try.prog 24 #[ptr r 0] w (RInSays f r D) := by
  obtain ⟨F, hd, hFn, hold⟩ := hL
  obtain ⟨W, hW⟩ : ∃ W, w.alloc (.cells #[.slice none 0 0, .slice none 0 0] 64) = W := ⟨_, rfl⟩
  have hbW : Below w.heap.size w W := by rw [← hW]; exact bel_alloc _ _
  have hWs : W.heap.size = w.heap.size + 1 := by rw [← hW]; simp
  have hn : W.heap[w.heap.size]? = some (.cells #[.slice none 0 0, .slice none 0 0] 64) := by rw [← hW]; exact heap_alloc_new w _
  obtain ⟨x0, D1, L0, ho0⟩ : ∃ x0 D1 L0, Lg.openL D 0 = (x0, D1, L0) := ⟨_, _, _, rfl⟩
  obtain ⟨x1, D2, L1, ho1⟩ : ∃ x1 D2 L1, Lg.openL D1 1 = (x1, D2, L1) := ⟨_, _, _, rfl⟩
  have hok := hd.ok
  have hok1 := Lg.openL_ok hok 0
  have hlo1 := Lg.openL_loose D 0
  have hr0 := Lg.openL_rs hok 0
  rw [ho0] at hok1 hlo1 hr0
  have hr1 := Lg.openL_rs hok1 1
  simp only at hok1 hlo1 hr0 hr1
  rw [ho1] at hr1
  simp only at hr1
  have hc0 := rlogopen_all W r D F (hd.below hbW) 0 (Nat.le_trans (read_le hok 0) (by decide)) (by omega)
  have hc1 := fun (X : World) (F1 : Nat → Prop) (h : RDAt X r D1 F1) => rlogopen_all X r D1 F1 h 1 (Nat.le_trans (read_le hok1 1) (by decide)) (by omega)
  unfold ROpenL at hc0 hc1
  rw [ho0] at hc0
  rw [ho1] at hc1
  simp only at hc0 hc1
  have HC0 := Lib.hid hc0
  have HC1 := Lib.hid hc1
  have HO0 := Lib.hid ho0
  have HO1 := Lib.hid ho1
  have HQ0 := Lib.hid (show L0.rs.length ≤ 5000000 ∧ ∀ r ∈ L0.rs, r.text.size ≤ 65536 from ⟨by have := rs_le L0.rs; omega, hr0.2⟩)
  have HQ1 := Lib.hid (show L1.rs.length ≤ 5000000 ∧ ∀ r ∈ L1.rs, r.text.size ≤ 65536 from ⟨by have := rs_le L1.rs; omega, hr1.2⟩)
  have HDW := Lib.hid (hd.below hbW)
  have HFN := Lib.hid hFn
  have HDF := Lib.hid hd.lt
  have HOLD := Lib.hid (hold.below hbW)
  have hfr : ∀ k, w.heap.size ≤ k → ¬ f.K k := fun k hk => hold.fresh hk
  have HW := Lib.hid hW
  have HN := Lib.hid hn
  obtain ⟨m, hnn⟩ : ∃ n, w.heap.size = n := ⟨_, rfl⟩
  rw [hnn] at HN hWs HDF hfr
  have HFR := Lib.hid hfr
  have HWS := Lib.hid hWs
  have HNN := Lib.hid hnn
  obtain ⟨iL, hiL, hL0, hL1, hL2⟩ := info_parts infoLogP
  clear hd hW hbW hWs hn hFn hold hfr ho0 ho1 hok hok1 hlo1 hr0 hr1 hc0 hc1 hm
  unfold ptr
  go_enter Try.func24, Try.ntmps24
  go_wp2_with fail
  refine wp_loop_rounds 3 ?_
  rw [rounds_succ]
  go_wp2_with fail
  first
    | rw [HW.out]
    | skip
  refine HC0.out.mono ?_
  rintro e w1 (⟨hx0, l0, rfl, hge0, ht0⟩ | ⟨hx0, rfl, ht0⟩)
  rotate_left
  · have hz : (x0 != 0) = true := by simpa using hx0
    have HX0 := Lib.hid hx0
    have HT0 := Lib.hid (RLiveF.turned HFN.out HOLD.out ht0)
    clear ht0 hx0
    go_wp2_with fail
    go_ret2
    exact ⟨_, _, _, Opened.is0 HO0.out HX0.out, .inl ⟨rfl, rfl, HT0.out⟩⟩
  subst hx0
  have hFm : ¬ F m := fun h => by have := HDF.out m h; omega
  obtain ⟨F1, G0, o1, d1, g0, fg1, f1, gn1⟩ := ht0
  have hn1 : w1.heap[m]? = some (.cells #[.slice none 0 0, .slice none 0 0] 64) := (o1.block m (by have := HWS.out; omega) (fun h => h.elim hFm id)).trans HN.out
  have HO1' := Lib.hid o1
  have HD1 := Lib.hid d1
  have HG0 := Lib.hid g0
  have HFG1 := Lib.hid fg1
  have HF1 := Lib.hid f1
  have HGN1 := Lib.hid gn1
  have HN1 := Lib.hid hn1
  have hlt1 : m < w1.heap.size := (Array.getElem?_eq_some_iff.1 hn1).1
  have c0 := cells_at hn1 0 _ rfl
  have z0 := cells_free hn1 0
  simp only [List.getElem_toArray, List.getElem_cons_zero] at c0
  unfold ptr
  clear hn1 o1 d1 g0 fg1 f1 gn1
  go_wp2_with (at_builtin; refine wpList_append_own _ rfl _ _ 62 rfl w1.heap.size 119 iL (.pointer none) 1 8 Try.underlying62 hiL hL0 hL1 hL2 rfl (by decide) _ _ _ rfl (World.ownsRow_nil _ _ _ _) ⟨w1.heap.size, 0, none⟩ 1 1 [.pointer (some ⟨l0, 0, none⟩)] rfl rfl ?c1 ?c2 ?c3 ?c4 ?c5 ?_)
  case c1 => exact cell_one_new _ _ _
  case c2 => simp [Value.oneCell']
  case c3 => unfold maxLen; omega
  case c4 => omega
  case c5 => simp
  intro v1 V1 hown1 hgr1 _
  have hbV1 := below_pushed (Below.refl w1.heap.size w1) (World.ownsRow_nil w1 w1.heap.size 119 1) _ hgr1
  obtain ⟨g1, k1, rfl⟩ : ∃ g c, v1 = .slice (some ⟨g, 0, none⟩) 1 c := by
    rcases hown1.2 with ⟨-, h0⟩ | ⟨g, cap, cur, hv, _⟩
    · omega
    · exact ⟨g, cap, hv⟩
  have hg1 : w1.heap.size ≤ g1 ∧ g1 < V1.heap.size := by
    rcases hown1.2 with ⟨h0, -⟩ | ⟨g', cap', cur, hv, h2, hcc, _⟩
    · cases h0
    · simp only [Value.slice.injEq, Option.some.injEq, Addr.mk.injEq] at hv
      have := (Array.getElem?_eq_some_iff.1 hcc).1
      omega
  have hm1 := (hbV1.block m hlt1).trans HN1.out
  have y0 := cells_at hm1 0 _ rfl
  have yf := cells_free hm1 0
  simp only [List.getElem_toArray, List.getElem_cons_zero] at y0
  have HV1 := Lib.hid hbV1
  have HOWN1 := Lib.hid hown1
  have HM1 := Lib.hid hm1
  clear hgr1 hbV1 hown1 hm1 c0 z0
  go_wp2_with fail
  obtain ⟨X, hX⟩ : ∃ X, V1.setCell ⟨m, 0, none⟩ (.slice (some ⟨g1, 0, none⟩) 1 k1) = X := ⟨_, rfl⟩
  have hXn : X.heap[m]? = some (.cells #[.slice (some ⟨g1, 0, none⟩) 1 k1, .slice none 0 0] 64) := by rw [← hX, cells_set HM1.out]; rfl
  have hoX : Only (fun k => k = m) w1 X := by rw [← hX]; exact (Only.below HV1.out).trans (Only.setCell (fun k => k = m) V1 ⟨m, 0, none⟩ _ rfl)
  have hXs : X.heap.size = V1.heap.size := by rw [← hX]; simp
  have hXown : X.ownsRow w1.heap.size 119 1 (.slice (some ⟨g1, 0, none⟩) 1 k1) 1 [.pointer (some ⟨l0, 0, none⟩)] := own_kept HOWN1.out (fun b hb => by
    simp only [Value.ownBlock, Option.some.injEq] at hb
    subst hb
    rw [← hX]
    exact Below.heap_setCell _ _ _ _ (by show g1 ≠ m; omega))
  have HX := Lib.hid hX
  have HXN := Lib.hid hXn
  have HOX := Lib.hid hoX
  have HXS := Lib.hid hXs
  have HXOWN := Lib.hid hXown
  have hF1m : ¬ F1 m := fun h => by rcases HF1.out m h with h | h; exact hFm h; have := HWS.out; omega
  have HDX := Lib.hid (HD1.out.only hoX (fun k hk e => hF1m (by rw [← show k = m from e]; exact hk)))
  clear hX hXn hoX hXs hXown y0 yf
  rw [HX.out, rounds_succ]
  go_wp2_with fail
  refine (HC1.out X F1 HDX.out).mono ?_
  rintro e w2 (⟨hx1, l1, rfl, hge1, ht1⟩ | ⟨hx1, rfl, ht1⟩)
  rotate_left
  · have hz : (x1 != 0) = true := by simpa using hx1
    have HX1 := Lib.hid hx1
    have HT0 := Lib.hid (RLiveF.turned (w := X) (f := f) (fun k hk => by
      rcases HF1.out k hk with h | h
      · exact HFN.out k h
      · exact HOLD.out.fresh h) ((HOLD.out.only HO1'.out (fun i hi => by
      rcases hi with h | h
      · exact HFN.out i h
      · exact h.elim)).only HOX.out (fun i hi => by rw [show i = m from hi]; exact HFR.out m (Nat.le_refl _))) ht1)
    clear ht1 hx1
    go_wp2_with fail
    go_ret2
    exact ⟨_, _, _, Opened.is1 HO0.out HO1.out HX1.out, .inl ⟨rfl, rfl, HT0.out⟩⟩
  subst hx1
  obtain ⟨F2, G1, o2, -, -, -, f2, -⟩ := id ht1
  have hmX := (Array.getElem?_eq_some_iff.1 HXN.out).1
  have hF1g : ¬ F1 g1 := fun h => by
    have := HD1.out.lt g1 h
    omega
  have hn2 : w2.heap[m]? = some (.cells #[.slice (some ⟨g1, 0, none⟩) 1 k1, .slice none 0 0] 64) := (o2.block m hmX (fun h => h.elim hF1m id)).trans HXN.out
  have hown2 : w2.ownsRow w1.heap.size 119 1 (.slice (some ⟨g1, 0, none⟩) 1 k1) 1 [.pointer (some ⟨l0, 0, none⟩)] := own_kept HXOWN.out (fun b hb => by
    simp only [Value.ownBlock, Option.some.injEq] at hb
    subst hb
    exact o2.block _ (by have := HXS.out; omega) (fun h => h.elim hF1g id))
  have HT1 := Lib.hid ht1
  have HN2 := Lib.hid hn2
  have HS2 := Lib.hid o2.size
  have hlt2 : m < w2.heap.size := (Array.getElem?_eq_some_iff.1 hn2).1
  have hw12 : w1.heap.size ≤ w2.heap.size := by
    have h1 := HOX.out.size
    have h2 := o2.size
    omega
  have hgw2 : g1 < w2.heap.size := by
    have h1 := HXS.out
    have h2 := o2.size
    omega
  have c1 := cells_at hn2 0 _ rfl
  have z1 := cells_free hn2 0
  simp only [List.getElem_toArray, List.getElem_cons_zero] at c1
  unfold ptr
  clear ht1 hn2 o2 f2
  have hown0 : RowAt (w2.alloc (.cells #[.pointer (some ⟨l1, 0, none⟩)] 119)) 119 1 (.slice (some ⟨g1, 0, none⟩) 1 k1) 1 [.pointer (some ⟨l0, 0, none⟩)] := by
    obtain ⟨a1, a2⟩ := hown2.alloc (.cells #[.pointer (some ⟨l1, 0, none⟩)] 119)
    refine .inl ⟨a1, ?_⟩
    rcases a2 with a2 | ⟨g', cap', cur, hv, h2, h3⟩
    · exact .inl a2
    · exact .inr ⟨g', cap', cur, hv, Nat.zero_le _, h3⟩
  have hnews := heap_alloc_new w2 (.cells #[.pointer (some ⟨l1, 0, none⟩)] 119)
  go_wp2_with (at_builtin; refine wpList_append_row rfl _ _ 62 rfl 119 iL (.pointer none) 1 8 Try.underlying62 hiL hL0 hL1 hL2 rfl (by decide) (.slice (some ⟨g1, 0, none⟩) 1 k1) 1 [.pointer (some ⟨l0, 0, none⟩)] (by rfl) hown0 ⟨w2.heap.size, 0, none⟩ 1 1 [.pointer (some ⟨l1, 0, none⟩)] rfl rfl (World.news_of_block (cs := #[.pointer (some ⟨l1, 0, none⟩)]) (t := 119) (fr := (0, 0)) hnews) (by simp [Value.oneCell']) (by omega) (by unfold maxLen; omega) (by omega) ?_)
  intro g2 k2 V2 hown3 hgr2 hat2 hlt22
  have hbA := bel_alloc w2 (.cells #[.pointer (some ⟨l1, 0, none⟩)] 119)
  have hkeep2 : ∀ k, k < w2.heap.size → k ≠ g1 → V2.heap[k]? = w2.heap[k]? := fun k hk hne => (hgr2.block k (by have := hbA.size; omega) (fun e => by simp only [Value.ownBlock, Option.some.injEq] at e; exact hne e)).trans (hbA.block k hk)
  have hm2 := (hkeep2 m hlt2 (by omega)).trans HN2.out
  have hV2s : w2.heap.size ≤ V2.heap.size := by
    have h1 := hbA.size
    have h2 := hgr2.size
    omega
  have hg2 : (g2 = g1 ∨ w2.heap.size ≤ g2) ∧ g2 < V2.heap.size := by
    refine ⟨?_, ?_⟩
    · rcases hat2 with h | h
      · simp only [Value.ownBlock, Option.some.injEq] at h
        exact .inl h.symm
      · exact .inr (by have := hbA.size; omega)
    · exact hlt22
  have hOV : Only (fun k => k = g1) w2 V2 := ⟨hgr2.os.trans hbA.os, hgr2.tape.trans hbA.tape, hgr2.output.trans hbA.output, hV2s, fun k hk hne => hkeep2 k hk hne⟩
  have y0 := cells_at hm2 0 _ rfl
  have yf := cells_free hm2 0
  simp only [List.getElem_toArray, List.getElem_cons_zero] at y0
  have HOV := Lib.hid hOV
  have HOWN3 := Lib.hid hown3
  have HM2 := Lib.hid hm2
  clear hgr2 hat2 hkeep2 hown3 hm2 hOV hbA c1 z1 hown2 hown0 hnews
  go_wp2_with fail
  obtain ⟨Y, hY⟩ : ∃ Y, V2.setCell ⟨m, 0, none⟩ (.slice (some ⟨g2, 0, none⟩) 2 k2) = Y := ⟨_, rfl⟩
  have hYn : Y.heap[m]? = some (.cells #[.slice (some ⟨g2, 0, none⟩) 2 k2, .slice none 0 0] 64) := by rw [← hY, cells_set HM2.out]; rfl
  have hYs : Y.heap.size = V2.heap.size := by rw [← hY]; simp
  have hoY : Only (fun k => k = m ∨ (w1.heap.size ≤ k ∧ k < X.heap.size)) w2 Y := by
    rw [← hY]
    exact (HOV.out.mono (fun i e => .inr (by rw [show i = g1 from e]; have := HXS.out; omega))).trans (Only.setCell _ V2 ⟨m, 0, none⟩ _ (.inl rfl))
  have hYown : Y.ownsRow 0 119 1 (.slice (some ⟨g2, 0, none⟩) 2 k2) 2 [ptr l0 0, ptr l1 0] := own_kept HOWN3.out (w' := Y) (fun b hb => by
      simp only [Value.ownBlock, Option.some.injEq] at hb
      subst hb
      rw [← hY]
      exact Below.heap_setCell _ _ _ _ (by show g2 ≠ m; omega))
  have hlive := RInLive.ofOpen (f := f) (m := m) (sv := .slice (some ⟨g2, 0, none⟩) 2 k2) HOLD.out HFN.out HDF.out (HFR.out m (Nat.le_refl _)) (by have := HWS.out; omega) HO1'.out HG0.out HFG1.out HF1.out HD1.out.lt HGN1.out HOX.out HT1.out hoY hYn hYown (fun g hg => by
    simp only [Value.ownBlock, Option.some.injEq] at hg
    subst hg
    refine ⟨?_, by omega⟩
    have h1 := HXS.out
    rcases hg2.1 with h | h
    · exact .inl ⟨by omega, by omega⟩
    · exact .inr h)
  have HLIVE := Lib.hid hlive
  have HY := Lib.hid hY
  clear hY hYn hYs hoY hYown hlive y0 yf HOWN3 HM2 HOV hg2 hV2s HT1 HN2 HS2 hlt2 hw12 hgw2 HDX hF1m hF1g hmX HXOWN HXS HOX HXN HX HV1 HOWN1 HM1 hg1 hlt1 HN1 HGN1 HF1 HFG1 HG0 HD1 HO1' hFm HC1 HC0
  rw [HY.out, rounds_succ]
  have hop := ROp.start HLIVE.out
  obtain ⟨rb, hrb⟩ : ∃ rb, Y.heap.size = rb := ⟨_, rfl⟩
  have HOP0 := Lib.hid hop
  clear hop
  obtain ⟨iS, hiS, hS0, hS1, hS2⟩ := info_parts infoNums
  go_wp2_with fail
  go_loopw [9] (fun pv wr => ∃ (k : Nat) (rv0 rv1 : Value) (A B : List (Int × InR)) (vs0 vs1 : List Value) (Z : Nat → Prop), k ≤ 2 ∧ pv = .int .i64 (k : Int) ∧ Hid (ROp f wr m r l0 l1 (.slice (some ⟨g2, 0, none⟩) 2 k2) (.slice none 0 0) ⟨D2, L0, L1, []⟩ rb rv0 rv1 A B vs0 vs1 Z) ∧ Hid (DecTo L0.rs L1.rs k A B)) (fun pv _ => 2 - (intOf pv).toNat)
  case atStart => exact ⟨0, _, _, [], [], [], [], _, by omega, rfl, by rw [← hrb]; exact HOP0, Lib.hid (DecTo.start _ _)⟩
  case round =>
    obtain ⟨k, rv0, rv1, A, B, vs0, vs1, Z, hk, rfl, HOP, HDEC⟩ := hrel
    clear hrb
    by_cases hk2 : k < 2
    · have hkk : (k : Int) < 2 := by omega
      obtain ⟨R, hR⟩ : ∃ R, (if k = 0 then L0.rs else L1.rs) = R := ⟨_, rfl⟩
      have HR := Lib.hid hR
      have HQR := Lib.hid (show R.length ≤ 5000000 ∧ ∀ r ∈ R, r.text.size ≤ 65536 by rw [← hR]; split; exact HQ0.out; exact HQ1.out)
      have HMEM := Lib.hid (show ∀ x ∈ R, x ∈ L0.rs ∨ x ∈ L1.rs by rw [← hR]; split; exact fun _ h => .inl h; exact fun _ h => .inr h)
      have hlg : (if k = 0 then (⟨D2, L0, L1, []⟩ : InSt).L0 else (⟨D2, L0, L1, []⟩ : InSt).L1).rs = R := by rw [← hR]; split <;> rfl
      have HLG := Lib.hid hlg
      obtain ⟨lp, hlp⟩ : ∃ lp, lpOf l0 l1 k = lp := ⟨_, rfl⟩
      have HLP := Lib.hid hlp
      clear hR hlg hlp
      go_wp2_with fail
      go_loopw [10] (fun iv wr => ∃ (j : Nat) (rv0 rv1 : Value) (A B : List (Int × InR)) (vs0 vs1 : List Value) (Z : Nat → Prop), j ≤ R.length ∧ iv = .int .i64 (j : Int) ∧ Hid (ROp f wr m r l0 l1 (.slice (some ⟨g2, 0, none⟩) 2 k2) (.slice none 0 0) ⟨D2, L0, L1, []⟩ rb rv0 rv1 A B vs0 vs1 Z) ∧ Hid (DecAt L0.rs L1.rs k j A B)) (fun iv _ => R.length - (intOf iv).toNat)
      case atStart => exact ⟨0, rv0, rv1, A, B, vs0, vs1, Z, Nat.zero_le _, rfl, HOP, Lib.hid (HDEC.out.into hk2)⟩
      case round =>
        clear HOP HDEC
        obtain ⟨j, rv0, rv1, A, B, vs0, vs1, Z, hj, rfl, HOP, HDEC⟩ := hrel
        obtain ⟨hcm, -, sb, sc, hsv, hsb, hsl⟩ := HOP.out.inp.live.cells
        simp only [Value.slice.injEq, Option.some.injEq, Addr.mk.injEq, and_true, true_and] at hsv
        obtain ⟨rfl, rfl⟩ := hsv
        obtain ⟨fl, hfl, hlplt, hfr⟩ := HOP.out.inp.live.log k hk2
        rw [HLG.out] at hfr
        rw [HLP.out] at hfl hlplt
        have hsp := hsl k hk2
        rw [HLP.out] at hsp
        unfold ptr at hsp
        obtain ⟨fa, fc, rfl⟩ := hfr.shape
        have hmlt := (Array.getElem?_eq_some_iff.1 hcm).1
        have c0 := cells_at hcm 0 _ rfl
        simp only [List.getElem_toArray, List.getElem_cons_zero] at c0
        have hRl := HQR.out.1
        have HFR := Lib.hid hfr
        clear hcm hsl hfr
        by_cases hjR : j < R.length
        · have hjk : (j : Int) < (R.length : Int) := by omega
          obtain ⟨x, hx⟩ : ∃ x, R[j]? = some x := ⟨R[j], by simp [hjR]⟩
          obtain ⟨fb, fo, fc', hfv, -, -, hfb, hfc⟩ := HFR.out.some (by omega)
          simp only [Value.slice.injEq] at hfv
          obtain ⟨rfl, -, rfl⟩ := hfv
          obtain ⟨e0, e1⟩ := rfCells_at R j x hx
          have q0 := hfc _ _ e0
          have q1 := hfc _ _ e1
          rw [← Nat.add_assoc] at q1
          have htx := HQR.out.2 x (List.mem_of_getElem? hx)
          obtain ⟨ns, xe, hnn2⟩ : ∃ ns x', Cl.nums x.text.data.toList = (ns, x') := ⟨_, _, rfl⟩
          obtain ⟨T, hT⟩ : ∃ T, x.text = T := ⟨_, rfl⟩
          obtain ⟨kd, hkd⟩ : ∃ kd : Int, (x.kind.toNat : Int) = kd := ⟨_, rfl⟩
          rw [hT] at hnn2 htx q1
          rw [hkd] at q0
          have HNS := Lib.hid (fun W => refnumbers_owns T ns xe W (Nat.le_trans htx (by decide)) hnn2)
          have HNN2 := Lib.hid hnn2
          have HT := Lib.hid hT
          have HKD := Lib.hid hkd
          have HX := Lib.hid hx
          have HJ := Lib.hid hjR
          have HFAIL := Lib.hid (fun (W' : World) (hb : Below wr.heap.size wr W') (hno : ¬ ∃ rs, IsIn L0.rs L1.rs rs ∧ rs.length ≤ 500) => (show RInSays f r D (.returned (.tuple #[.pointer none, .int .i64 210])) W' from ⟨_, _, _, Opened.isNo HO0.out HO1.out hno, .inl ⟨rfl, rfl, (HOP.out.inp.live.below hb).liveF⟩⟩))
          have HBAD := Lib.hid (show ¬ (x.kind = 1 ∧ ∃ a b c, Cl.nums x.text.data.toList = ([a, b, c], 0)) → ¬ ∃ rs, IsIn L0.rs L1.rs rs ∧ rs.length ≤ 500 from fun hb ⟨rs, hi, _⟩ => hb (hi.good (by have h1 := HQ0.out.1; have h2 := HQ1.out.1; omega) (HMEM.out x (List.mem_of_getElem? hx))))
          have HC := Lib.hid (fun (W' : World) (hb : Below wr.heap.size wr W') => And.intro ((hb.cell (p := ⟨m, 0, none⟩) hmlt).trans c0) (And.intro ((hb.cell (p := ⟨g2, k, none⟩) hsb).trans hsp) (And.intro ((hb.cell (p := ⟨lp, 2, none⟩) hlplt).trans hfl) (And.intro ((hb.cell (p := ⟨fb, fo + j * 2, none⟩) hfb).trans q0) ((hb.cell (p := ⟨fb, fo + j * 2 + 1, none⟩) hfb).trans q1)))))
          clear hx e0 e1 hfc hnn2 hT hkd htx
          go_wp2_with fail
          refine (HNS.out wr).mono ?_
          rintro e w6 ⟨v, rfl, hown6, hb6⟩
          have HB6 := Lib.hid hb6
          have hrv := Reads.own hown6
          obtain ⟨va, vc, rfl⟩ := hrv.shape
          have hvl := hrv.lenLe
          unfold maxLen at hvl
          have HOWN6 := Lib.hid hown6
          obtain ⟨t0, t1, t2, t3, t4⟩ := HC.out w6 hb6
          clear hrv hb6 hown6 c0 hsp hfl q0 q1
          by_cases hxe : xe = 0
          rotate_left
          · have hz : (xe != 0) = true := by simpa using hxe
            have HXE := Lib.hid hxe
            clear hxe
            go_wp2_with fail
            go_ret2
            refine HFAIL.out _ (by first | exact HB6.out | exact HB6.out.drew | exact bel_trans HB6.out (bel_drewN _ _)) (HBAD.out (fun hh => ?_))
            obtain ⟨-, a, b, c, hh⟩ := hh
            rw [HT.out, HNN2.out] at hh
            exact HXE.out (congrArg Prod.snd hh)
          subst hxe
          by_cases hk1 : kd = 1
          rotate_left
          · have hz : (kd != 1) = true := by simpa using hk1
            have HK1 := Lib.hid hk1
            clear hk1
            go_wp2_with fail
            go_ret2
            refine HFAIL.out _ (by first | exact HB6.out | exact HB6.out.drew | exact bel_trans HB6.out (bel_drewN _ _)) (HBAD.out (fun hh => ?_))
            refine HK1.out ?_
            rw [← HKD.out, hh.1]
            rfl
          subst hk1
          by_cases hn3 : ns.length = 3
          rotate_left
          · have hz : ((ns.length : Int) != 3) = true := by simp; omega
            have hz2 : (ns.length == 3) = false := by simpa using hn3
            have HN3 := Lib.hid hn3
            clear hn3
            go_wp2_with fail
            go_ret2
            refine HFAIL.out _ (by first | exact HB6.out | exact HB6.out.drew | exact bel_trans HB6.out (bel_drewN _ _)) (HBAD.out (fun hh => ?_))
            obtain ⟨-, a, b, c, hh⟩ := hh
            rw [HT.out, HNN2.out] at hh
            have h9 : ns = [a, b, c] := congrArg Prod.fst hh
            refine HN3.out ?_
            rw [h9]
            rfl
          obtain ⟨a, b, c, rfl⟩ : ∃ a b c, ns = [a, b, c] := by
            match ns, hn3 with
            | [a, b, c], _ => exact ⟨a, b, c, rfl⟩
          clear hn3 hvl
          obtain ⟨hq1, hq2, hq3, hq4⟩ := rec_of (k : Int) x a b c (by
            have h1 := HKD.out
            have h2 : x.kind.toNat = 1 := by omega
            exact UInt8.toNat_inj.1 h2) (by rw [HT.out]; exact HNN2.out)
          have HQR2 := Lib.hid (show (if k = 0 then L0.rs else L1.rs)[j]? = some (recI (a, ⟨(k : Int), b, c⟩)) by rw [HR.out, HX.out, hq1])
          have HIN := Lib.hid (show Cl.In64 a ∧ Cl.In64 b ∧ Cl.In64 c from ⟨hq2, hq3, hq4⟩)
          -- the three numbers
          obtain ⟨vb, hvv, hvb⟩ : ∃ vb, va = some ⟨vb, 0, none⟩ ∧ (wr.heap.size ≤ vb ∧ vb < w6.heap.size) ∧ w6.cell? ⟨vb, 0, none⟩ = some (.int .i64 a) ∧ w6.cell? ⟨vb, 1, none⟩ = some (.int .i64 b) ∧ w6.cell? ⟨vb, 2, none⟩ = some (.int .i64 c) ∧ ∃ cur, w6.heap[vb]? = some (.cells cur 2) := by
            rcases HOWN6.out.2 with ⟨-, h0⟩ | ⟨g', cap', cur, hv, h2, hcc, h4, h5, h6, h7⟩
            · simp at h0
            · simp only [Value.slice.injEq] at hv
              refine ⟨g', hv.1, ⟨h2, (Array.getElem?_eq_some_iff.1 hcc).1⟩, ?_⟩
              have hat : ∀ i u, ([Value.int .i64 a, .int .i64 b, .int .i64 c] : List Value)[i]? = some u → w6.cell? ⟨g', i, none⟩ = some u := fun i u hi => by
                refine cells_at hcc i u ?_
                have hlt := (List.getElem?_eq_some_iff.1 hi).1
                have h8 : cur.toList.take 3 = [Value.int .i64 a, .int .i64 b, .int .i64 c] := h7
                rw [← h8, List.getElem?_take_of_lt (by simpa using hlt)] at hi
                simpa using hi
              exact ⟨hat 0 _ rfl, hat 1 _ rfl, hat 2 _ rfl, cur, hcc⟩
          subst hvv
          have HVB := Lib.hid hvb
          clear hq1 hq2 hq3 hq4 hvb
          -- the part's row
          obtain ⟨z0, hrblt, ⟨la, lc, hrv⟩, -⟩ := HOP.out.at' k hk2
          have hrbf : w6.frozen? ⟨rb, k, none⟩ = false := cells_free ((HB6.out.block rb hrblt).trans HOP.out.box) k
          have y0 := (HB6.out.cell (p := ⟨rb, k, none⟩) hrblt).trans z0
          rw [hrv] at y0
          obtain ⟨C, hC⟩ : ∃ C, (if k = 0 then A else B) = C := ⟨_, rfl⟩
          obtain ⟨vs, hvs⟩ : ∃ vs, (if k = 0 then vs0 else vs1) = vs := ⟨_, rfl⟩
          have hCl : C.length ≤ 5000000 := by
            obtain ⟨-, -, d3, d4⟩ := HDEC.out
            have h1 := congrArg List.length d3
            have h2 := congrArg List.length d4
            have h3 := HQ0.out.1
            have h4 := HQ1.out.1
            unfold rowsR at h1 h2
            rw [List.length_map] at h1 h2
            rw [← hC]
            split
            · rw [h1]; split
              · rw [List.length_take]; omega
              · omega
            · rw [h2]; split
              · simp
              · rw [List.length_take]; omega
          have hrow6 : w6.ownsRow 0 102 1 (.slice la C.length lc) C.length vs := by
            have hrw : wr.ownsRow 0 102 1 (if k = 0 then rv0 else rv1) (if k = 0 then A else B).length (if k = 0 then vs0 else vs1) := by
              split
              · exact HOP.out.row0.own
              · exact HOP.out.row1.own
            rw [hrv, hC, hvs] at hrw
            exact own_far hrw HB6.out
          rw [hC] at hrv y0
          have HRV := Lib.hid hrv
          have HCC := Lib.hid hC
          have HVS := Lib.hid hvs
          have hnews := heap_alloc_new w6 (.cells #[.slice (some ⟨vb, 0, none⟩) 3 vc] 102)
          have hrowA : RowAt (w6.alloc (.cells #[.slice (some ⟨vb, 0, none⟩) 3 vc] 102)) 102 1 (.slice la C.length lc) C.length vs := .inl (own_far hrow6 (bel_alloc w6 _))
          have HRA := Lib.hid hrowA
          have HRB := Lib.hid hrblt
          have hrb6 : rb < w6.heap.size := by have := HB6.out.size; omega
          clear hrow6 hrowA hrv hC hvs z0
          go_wp2_with (at_builtin; refine wpList_append_row rfl _ _ 122 rfl 102 iS (.slice none 0 0) 1 24 Try.underlying122 hiS hS0 hS1 hS2 rfl (by decide) (.slice la C.length lc) C.length vs (by rfl) HRA.out ⟨w6.heap.size, 0, none⟩ 1 1 [.slice (some ⟨vb, 0, none⟩) 3 vc] rfl rfl (World.news_of_block (cs := #[.slice (some ⟨vb, 0, none⟩) 3 vc]) (t := 102) (fr := (0, 0)) hnews) (by simp [Value.oneCell']) (by omega) (by unfold maxLen; omega) (by omega) ?_)
          intro g9 c9 w9 hown9 hgr9 hat9 hlt9
          have hrbla : (Value.slice la C.length lc).ownBlock ≠ some rb := fun e => by
            rw [← HRV.out] at e
            split at e
            · obtain ⟨cur, hc⟩ := HOP.out.row0.type e
              exact far hc HOP.out.box (by decide) rfl
            · obtain ⟨cur, hc⟩ := HOP.out.row1.type e
              exact far hc HOP.out.box (by decide) rfl
          have hkeep9 : w9.heap[rb]? = w6.heap[rb]? := (hgr9.block rb (by simp; omega) (fun e => hrbla e.symm)).trans (Below.heap_alloc w6 _ rb hrb6)
          have e9 := (World.cell?_of_block hkeep9).trans y0
          have ef9 := (World.frozen?_of_block hkeep9).trans hrbf
          have hbA := bel_trans HB6.out (bel_alloc w6 (.cells #[.slice (some ⟨vb, 0, none⟩) 3 vc] 102))
          have hpush := HOP.out.push hbA k hk2 (g := g9) (c := c9) (v := .slice (some ⟨vb, 0, none⟩) 3 vc) (q := (a, ⟨(k : Int), b, c⟩)) (by
            obtain ⟨⟨v1, v2⟩, v3, v4, v5, cur, v6⟩ := HVB.out
            have hbl := Below.heap_alloc w6 (.cells #[.slice (some ⟨vb, 0, none⟩) 3 vc] 102) vb v2
            exact ⟨vb, vc, rfl, ⟨v1, by simp; omega⟩, (World.cell?_of_block hbl).trans v3, (World.cell?_of_block hbl).trans v4, (World.cell?_of_block hbl).trans v5, cur, hbl.trans v6⟩) (by rw [HRV.out]; exact hgr9) (by rw [HCC.out, HVS.out]; exact hown9) (by rw [HRV.out, World.size_alloc]; exact hat9)
          rw [HCC.out] at hpush
          have HPUSH := Lib.hid hpush
          have HNEXT := Lib.hid (HDEC.out.next hk2 (q := (a, ⟨(k : Int), b, c⟩)) ⟨rfl, HIN.out⟩ HQR2.out)
          clear hown9 hgr9 hat9 hrbla hkeep9 hbA hpush hnews y0 hrbf t0 t1 t2 t3 t4
          go_wp2_with fail
          go_roundw
          case rel =>
            obtain ⟨Z', hp⟩ := HPUSH.out
            exact ⟨j + 1, _, _, _, _, _, _, Z', HJ.out, by go_num, Lib.hid hp, HNEXT⟩
          case measure => have := HJ.out; simp [intOf]; omega
        · obtain rfl : j = R.length := by omega
          have hjk : ¬ (R.length : Int) < (R.length : Int) := by omega
          have HDONE := Lib.hid (DecAt.done (by rw [HR.out]; exact HDEC.out) hk2)
          go_wp2_with fail
          go_roundw
          case rel => exact ⟨k + 1, rv0, rv1, A, B, vs0, vs1, Z, by omega, by go_num, HOP, HDONE⟩
          case measure => simp [intOf]; omega
    · obtain rfl : k = 2 := by omega
      have hnk : ¬ ((2 : Nat) : Int) < 2 := by omega
      obtain ⟨da, db, d0, d1⟩ := HDEC.out
      have d0 : rowsR A = L0.rs := d0
      have d1 : rowsR B = L1.rs := d1
      have HDA := Lib.hid da
      have HDB := Lib.hid db
      have HD0 := Lib.hid d0.symm
      have HD1 := Lib.hid d1.symm
      have hsm : L0.rs.length + L1.rs.length ≤ 100000000 := by
        have h1 := HQ0.out.1
        have h2 := HQ1.out.1
        omega
      have HSM := Lib.hid hsm
      have hAl : A.length ≤ 5000000 := by
        have h1 := congrArg List.length d0
        have h2 := HQ0.out.1
        unfold rowsR at h1
        rw [List.length_map] at h1
        omega
      have hBl : B.length ≤ 5000000 := by
        have h1 := congrArg List.length d1
        have h2 := HQ1.out.1
        unfold rowsR at h1
        rw [List.length_map] at h1
        omega
      have hop2 := HOP.out.below (bel_alloc wr (.cells #[.int .i64 0, .int .i64 0] 129))
      obtain ⟨Z2, hZ2⟩ : ∃ Z2 : Nat → Prop, (fun k => Z k ∨ (wr.heap.size ≤ k ∧ k < (wr.alloc (.cells #[.int .i64 0, .int .i64 0] 129)).heap.size)) = Z2 := ⟨_, rfl⟩
      have hZab : Z2 wr.heap.size := by rw [← hZ2]; exact .inr ⟨Nat.le_refl _, by simp⟩
      rw [hZ2] at hop2
      have hab := heap_alloc_new wr (.cells #[.int .i64 0, .int .i64 0] 129)
      obtain ⟨ab, habb⟩ : ∃ ab, wr.heap.size = ab := ⟨_, rfl⟩
      rw [habb] at hZab hab
      have HOP2 := Lib.hid hop2
      have HAB := Lib.hid hab
      have HZAB := Lib.hid hZab
      have HABB := Lib.hid habb
      clear da db d0 d1 hsm hop2 hZ2 hZab hab HDEC
      go_wp2_with fail
      try rw [habb]
      clear habb
      go_loopw [14] (fun pv wr => ∃ (a b : Nat) (rs : List InR) (lv : Value) (Z : Nat → Prop), Hid (ROp f wr m r l0 l1 (.slice (some ⟨g2, 0, none⟩) 2 k2) lv ⟨D2, L0, L1, rs⟩ rb rv0 rv1 A B vs0 vs1 Z) ∧ Hid (Z ab) ∧ Hid (wr.heap[ab]? = some (.cells #[.int .i64 (a : Int), .int .i64 (b : Int)] 129)) ∧ Hid (Merged A B a b rs) ∧ pv = pv) (fun _ wr => A.length + B.length - (cellN wr ab 0 + cellN wr ab 1))
      case atStart => exact ⟨0, 0, [], _, Z2, HOP2, HZAB, HAB, Lib.hid (Merged.start A B), rfl⟩
      case round =>
        clear HOP2 HZAB HAB HABB HOP
        obtain ⟨a, b, rs, lv, Z, HOP, HZAB, HAB, HMG, -⟩ := hrel
        have hla := HMG.out.la
        have hlb := HMG.out.lb
        have hrl := HMG.out.len
        obtain ⟨hcm, hrow, -⟩ := HOP.out.inp.live.cells
        obtain ⟨na, nc, rfl⟩ := (Reads.own hrow).shape
        obtain ⟨q, hq⟩ : ∃ q, rs.length = q := ⟨_, rfl⟩
        rw [hq] at hrl hcm
        have HRL := Lib.hid hrl
        have HQ := Lib.hid hq
        have hql : q ≤ 10000000 := by omega
        have hmlt := (Array.getElem?_eq_some_iff.1 hcm).1
        have hablt := (Array.getElem?_eq_some_iff.1 HAB.out).1
        have c1 := cells_at hcm 1 _ rfl
        have a0 := cells_at HAB.out 0 _ rfl
        have a1 := cells_at HAB.out 1 _ rfl
        simp only [List.getElem_toArray, List.getElem_cons_zero, List.getElem_cons_succ] at c1 a0 a1
        obtain ⟨z0, hrblt, ⟨la0, lc0, hrv0⟩, -⟩ := HOP.out.at' 0 (by omega)
        obtain ⟨z1, -, ⟨la1, lc1, hrv1⟩, -⟩ := HOP.out.at' 1 (by omega)
        simp only [if_true, Nat.one_ne_zero, if_false] at z0 z1 hrv0 hrv1
        rw [hrv0] at z0
        rw [hrv1] at z1
        have HCF := Lib.hid (fun (W' : World) (hb : Below wr.heap.size wr W') (k : Nat) (hk : k < 2) => (show W'.cell? ⟨ab, k, none⟩ = some (.int .i64 ((if k = 0 then a else b : Nat) : Int)) ∧ W'.cell? ⟨m, 1, none⟩ = some (.slice na q nc) ∧ (∃ la lc, W'.cell? ⟨rb, k, none⟩ = some (.slice la (if k = 0 then A else B).length lc)) ∧
            ∀ y, (if k = 0 then A else B)[(if k = 0 then a else b)]? = some y → ∃ g lc vb c, W'.cell? ⟨rb, k, none⟩ = some (.slice (some ⟨g, 0, none⟩) (if k = 0 then A else B).length lc) ∧ W'.cell? ⟨g, (if k = 0 then a else b), none⟩ = some (.slice (some ⟨vb, 0, none⟩) 3 c) ∧ (vb < wr.heap.size ∧ ∃ cur, wr.heap[vb]? = some (.cells cur 2)) ∧ W'.cell? ⟨vb, 0, none⟩ = some (.int .i64 y.1) ∧ W'.cell? ⟨vb, 1, none⟩ = some (.int .i64 y.2.key) ∧ W'.cell? ⟨vb, 2, none⟩ = some (.int .i64 y.2.val) ∧ vb ≠ ab by
          obtain ⟨w0', w1', ⟨la, lc, w2'⟩, w3'⟩ := HOP.out.at' k hk
          refine ⟨?_, (hb.cell (p := ⟨m, 1, none⟩) hmlt).trans c1, ⟨la, lc, ?_⟩, fun y hy => ?_⟩
          · rcases (show k = 0 ∨ k = 1 by omega) with rfl | rfl
            · exact (hb.cell (p := ⟨ab, 0, none⟩) hablt).trans a0
            · exact (hb.cell (p := ⟨ab, 1, none⟩) hablt).trans a1
          · rw [← w2']; exact (hb.cell (p := ⟨rb, k, none⟩) hrblt).trans w0'
          · obtain ⟨g, lc', vb, c, y1, y2, y3, y4, y5, y6, y7, cur, y8⟩ := w3' _ y hy
            exact ⟨g, lc', vb, c, by rw [← y1]; exact (hb.cell (p := ⟨rb, k, none⟩) hrblt).trans w0', (hb.cell (p := ⟨g, _, none⟩) y2).trans y3, ⟨y4, cur, y8⟩, (hb.cell (p := ⟨vb, 0, none⟩) y4).trans y5, (hb.cell (p := ⟨vb, 1, none⟩) y4).trans y6, (hb.cell (p := ⟨vb, 2, none⟩) y4).trans y7, fun e => far y8 HAB.out (by decide) e⟩))
        have HFAIL := Lib.hid (fun (W' : World) (hb : Below wr.heap.size wr W') (hno : ¬ ∃ rs, IsIn L0.rs L1.rs rs ∧ rs.length ≤ 500) => (show RInSays f r D (.returned (.tuple #[.pointer none, .int .i64 210])) W' from ⟨_, _, _, Opened.isNo HO0.out HO1.out hno, .inl ⟨rfl, rfl, (HOP.out.inp.live.below hb).liveF⟩⟩))
        have HCM := Lib.hid hcm
        clear hcm hrow hrv0 hrv1 hrl hq
        by_cases hfin : a < A.length ∨ b < B.length
        · rcases (show a < A.length ∨ (¬ a < A.length ∧ b < B.length) by omega) with hA | ⟨hA, hB⟩
          · have hA1 : (a : Int) < (A.length : Int) := by omega
            have HFIN := Lib.hid hfin
            clear hA hfin
            go_upto_region 22 with fail
            clear a0 a1 z0 z1 c1 hA1
            go_wp2_with fail
            go_loopw [14, 15] (fun pv kv wz => ∃ k : Nat, k ≤ 2 ∧ kv = .int .i64 (k : Int) ∧ pv = .int .i64 (pickP A B a b q k) ∧ Hid (Below wr.heap.size wr wz)) (fun _ kv _ => 2 - (intOf kv).toNat)
            case atStart => exact ⟨0, by omega, rfl, rfl, Lib.hid (Below.refl _ _)⟩
            case round =>
              obtain ⟨k, hk3, rfl, rfl, HBZ⟩ := hrel
              by_cases hk4 : k < 2
              · have hkk : (k : Int) < 2 := by omega
                obtain ⟨e0, e1, ⟨la, lc, e2⟩, e3⟩ := HCF.out _ HBZ.out k hk4
                have HSTEP := Lib.hid (pickP_step (A := A) (B := B) (a := a) (b := b) (n := q) hk4)
                obtain ⟨pv, hpv⟩ : ∃ pv, pickP A B a b q k = pv := ⟨_, rfl⟩
                have HPV := Lib.hid hpv
                obtain ⟨C, hC⟩ : ∃ C, (if k = 0 then A else B) = C := ⟨_, rfl⟩
                obtain ⟨c, hc⟩ : ∃ c, (if k = 0 then a else b) = c := ⟨_, rfl⟩
                have hCl : C.length ≤ 5000000 ∧ c ≤ 5000000 := by rw [← hC, ← hc]; split <;> omega
                rw [hpv]
                rw [hc] at e0
                rw [hC] at e2
                rw [hC, hc] at e3 HSTEP
                clear hpv hC hc
                cases hq : C[c]? with
                | none =>
                  have hge := List.getElem?_eq_none_iff.1 hq
                  have hlt : ¬ (c : Int) < (C.length : Int) := by omega
                  have hlt2 : ¬ c < C.length := by omega
                  have HHD := Lib.hid (show hdIs C c q = false by unfold hdIs; rw [hq])
                  clear hq hge e3
                  go_wp2_with fail
                  go_quiet (fail)
                  go_wp2_with fail
                  go_roundw
                  case rel => exact ⟨k + 1, by omega, by go_num, by rw [HSTEP.out, HHD.out, HPV.out]; rfl, Lib.hid (bel_trans HBZ.out (by first | exact bel_drewN _ _ | exact bel_drew _))⟩
                  case measure => simp [intOf]; omega
                | some y =>
                  obtain ⟨g, lc', vb, c', y1, y2, y3, y4, y5, y6⟩ := e3 y hq
                  have hlt := (List.getElem?_eq_some_iff.1 hq).1
                  have hlt2 : (c : Int) < (C.length : Int) := by omega
                  rw [e2] at y1
                  simp only [Option.some.injEq, Value.slice.injEq, true_and] at y1
                  obtain ⟨rfl, rfl⟩ := y1
                  obtain ⟨i, xx⟩ := y
                  by_cases hiq : i = (q : Int)
                  · subst hiq
                    have HHD := Lib.hid (hdIs_iff.2 ⟨xx, hq⟩)
                    clear hq e3
                    go_wp2_with fail
                    go_quiet (fail)
                    go_wp2_with fail
                    go_roundw
                    case rel => exact ⟨k + 1, by omega, by go_num, by rw [HSTEP.out, HHD.out]; rfl, Lib.hid (bel_trans HBZ.out (by first | exact bel_drewN _ _ | exact bel_drew _))⟩
                    case measure => simp [intOf]; omega
                  · have hz : (i == (q : Int)) = false := by simpa using hiq
                    have HHD := Lib.hid (show hdIs C c q = false by unfold hdIs; rw [hq]; exact hz)
                    clear hq e3 hiq
                    go_wp2_with fail
                    go_quiet (fail)
                    go_wp2_with fail
                    go_roundw
                    case rel => exact ⟨k + 1, by omega, by go_num, by rw [HSTEP.out, HHD.out, HPV.out]; rfl, Lib.hid (bel_trans HBZ.out (by first | exact bel_drewN _ _ | exact bel_drew _))⟩
                    case measure => simp [intOf]; omega
              · obtain rfl : k = 2 := by omega
                have hkk : ¬ ((2 : Nat) : Int) < 2 := by omega
                rcases pickP_end (A := A) (B := B) (a := a) (b := b) (n := q) with ⟨p, hp, hpe, hhd⟩ | ⟨hpe, hnA, hnB⟩
                rotate_left
                · have HNO := Lib.hid (show ¬ ∃ rs, IsIn L0.rs L1.rs rs ∧ rs.length ≤ 500 from by
                    rintro ⟨rs', hi, -⟩
                    rcases HMG.out.stuck HSM.out HDA.out HDB.out HD0.out HD1.out hi with ⟨xx, -, hxx⟩ | ⟨ha, hb, -⟩
                    · rw [HQ.out] at hxx
                      rcases hxx with ⟨-, hxx⟩ | ⟨-, hxx⟩
                      · rw [hdIs_iff.2 ⟨xx, hxx⟩] at hnA; cases hnA
                      · rw [hdIs_iff.2 ⟨xx, hxx⟩] at hnB; cases hnB
                    · have := HFIN.out
                      omega)
                  rw [hpe]
                  clear hpe hnA hnB
                  go_wp2_with fail
                  go_ret2
                  exact HFAIL.out _ (by first | exact HBZ.out | exact HBZ.out.drew | exact bel_trans HBZ.out (bel_drewN _ _)) HNO.out
                rw [hpe]
                obtain ⟨xx, hq⟩ := hdIs_iff.1 hhd
                have hxp : xx.part = (p : Int) := by
                  split at hq
                  · rename_i h; rw [h]; exact (HDA.out _ (List.mem_of_getElem? hq)).1
                  · rename_i h; rw [show p = 1 by omega]; exact (HDB.out _ (List.mem_of_getElem? hq)).1
                obtain ⟨xp, xk, xv⟩ := xx
                have hxp : xp = (p : Int) := hxp
                subst hxp
                obtain ⟨e0, e1, ⟨la, lc, e2⟩, e3⟩ := HCF.out _ HBZ.out p hp
                obtain ⟨g, lc', vb, c', y1, y2, ⟨y3, y9⟩, y4, y5, y6, y7⟩ := e3 _ hq
                have HVT := Lib.hid y9
                clear y9
                rw [e2] at y1
                simp only [Option.some.injEq, Value.slice.injEq, true_and] at y1
                obtain ⟨rfl, rfl⟩ := y1
                obtain ⟨C, hC⟩ : ∃ C, (if p = 0 then A else B) = C := ⟨_, rfl⟩
                obtain ⟨c, hc⟩ : ∃ c, (if p = 0 then a else b) = c := ⟨_, rfl⟩
                have hCl : C.length ≤ 5000000 ∧ c ≤ 5000000 := by rw [← hC, ← hc]; split <;> omega
                rw [hc] at e0 y2 hq
                rw [hC] at e2 hq
                have HQQ := Lib.hid hq
                have hlt := (List.getElem?_eq_some_iff.1 hq).1
                have hlt2 : (c : Int) < (C.length : Int) := by omega
                have hp2 : (p : Int) < 2 := by omega
                have hp0 : ¬ (p : Int) < 0 := by omega
                have HCC := Lib.hid hC
                have HC2 := Lib.hid hc
                have HVAB := Lib.hid y7
                have HVLT := Lib.hid y3
                have HY := Lib.hid (fun (W' : World) (hb : Below wr.heap.size wr W') => And.intro ((hb.cell (p := ⟨vb, 0, none⟩) (by have := HBZ.out.size; show vb < _; omega)).trans y4) (And.intro ((hb.cell (p := ⟨vb, 1, none⟩) (by have := HBZ.out.size; show vb < _; omega)).trans y5) ((hb.cell (p := ⟨vb, 2, none⟩) (by have := HBZ.out.size; show vb < _; omega)).trans y6)))
                clear hq e3 hhd hpe hC hc y7 y3
                have hfz : wr.frozen? ⟨ab, p, none⟩ = false := cells_free ((HBZ.out.block ab hablt).trans HAB.out) p
                have eW : IntKind.i64.wrap ((c : Int) + 1) = (c : Int) + 1 := IntWalk.i64_in _ (by omega)
                go_wp2_with fail
                go_quiet (fail)
                obtain ⟨U, hU⟩ : ∃ U, wr.drewN nq = U := ⟨_, rfl⟩
                rw [hU]
                have hbU : Below wr.heap.size wr U := by rw [← hU]; exact bel_drewN _ _
                have hfz : U.frozen? ⟨ab, p, none⟩ = false := by rw [← hU]; exact hfz
                have e0 : U.cell? ⟨ab, p, none⟩ = some (.int .i64 (c : Int)) := by rw [← hU]; exact e0
                have HYU := Lib.hid (HY.out U hbU)
                have HBU := Lib.hid (bel_trans HBZ.out hbU)
                clear e1 e2 y2 y4 y5 y6 hU hbU
                go_upto_region 32 with fail
                clear hfz e0 eW
                have habU := (HBU.out.block ab hablt).trans HAB.out
                have hoV := Only.setCell (fun k => k = ab) U ⟨ab, p, none⟩ (.int .i64 ((c : Int) + 1)) rfl
                have hVab := cells_set habU p (.int .i64 ((c : Int) + 1))
                have hopV := (HOP.out.below HBU.out).other (.inl HZAB.out) habU hoV
                have hvlt : vb < U.heap.size := by have h1 := HBU.out.size; have h2 := HVLT.out; omega
                have hvV := hoV.block vb hvlt HVAB.out
                obtain ⟨V, hV⟩ : ∃ V, U.setCell ⟨ab, p, none⟩ (.int .i64 ((c : Int) + 1)) = V := ⟨_, rfl⟩
                rw [hV] at hVab hopV hvV ⊢
                have hVs : V.heap.size = U.heap.size := by rw [← hV]; simp
                obtain ⟨hcm, hrow, -⟩ := hopV.inp.live.cells
                have hrr : RowAt V 32 3 (.slice na rs.length nc) rs.length (inCells rs) := .inl hrow
                rw [HQ.out] at hrr hcm
                obtain ⟨u0, u1, u2'⟩ := HYU.out
                have x0 := (World.cell?_of_block (a := ⟨vb, 0, none⟩) hvV).trans u0
                have x1 := (World.cell?_of_block (a := ⟨vb, 1, none⟩) hvV).trans u1
                have x2 := (World.cell?_of_block (a := ⟨vb, 2, none⟩) hvV).trans u2'
                have HX3 := Lib.hid (And.intro x0 (And.intro x1 x2))
                have HCMV := Lib.hid hcm
                have HRR := Lib.hid hrr
                have HOPV := Lib.hid hopV
                have HVAB2 := Lib.hid hVab
                have hmltV := (Array.getElem?_eq_some_iff.1 hcm).1
                have hvltV : vb < V.heap.size := by omega
                have hnne : (Value.slice na q nc).ownBlock ≠ some m := fun e => by
                  obtain ⟨cur, hc⟩ := hrr.type m e
                  exact far hc hcm (by decide) rfl
                have hnnv : (Value.slice na q nc).ownBlock ≠ some vb := fun e => by
                  obtain ⟨cur, hc⟩ := hrr.type vb e
                  obtain ⟨cur2, hc2⟩ := HVT.out
                  exact far (hvV.trans ((HBU.out.block vb HVLT.out).trans hc2)) hc (by decide) rfl
                have HNNE := Lib.hid hnne
                have HNNV := Lib.hid hnnv
                obtain ⟨i0, hi0, hz0, hz1, hz2⟩ := info_parts infoIn
                clear hV hVs hcm hrow hrr u0 u1 u2' x0 x1 x2 hopV hVab hvV hoV habU hnne hnnv
                refine wp_region_free [0, 1, 2, 3, 4, 5, 6, 7, 8, 9, 10, 11, 12] 15 (fun W' => W'.heap[m]? = V.heap[m]? ∧ W'.heap[vb]? = V.heap[vb]?) (by kernel_rfl) (by kernel_rfl) ?_
                change wpYields _ _ _ _ [_, _, _, _, _, _, _, _, _, _, _, _, _] _
                iterate 13 (refine yields_step (fun K hK => ?_); apply Exists.intro; apply And.intro; (apply yields_at rfl; rintro W' hb; have y := hb.1.trans HCMV.out; have y1 := cells_at y 1 _ rfl; simp only [List.getElem_toArray, List.getElem_cons_zero, List.getElem_cons_succ] at y1; obtain ⟨x0, x1, x2⟩ := HX3.out; have z0 := (World.cell?_of_block (a := ⟨vb, 0, none⟩) hb.2).trans x0; have z1 := (World.cell?_of_block (a := ⟨vb, 1, none⟩) hb.2).trans x1; have z2 := (World.cell?_of_block (a := ⟨vb, 2, none⟩) hb.2).trans x2; go_simp; first | done | rfl); go_simp; refine hK _ ?_; clear hK K)
                refine yields_nil ?_
                refine anyP_one (k := 13) (by kernel_rfl) (by decide) rfl rfl ⟨rfl, rfl⟩ ?_
                refine wpP_step rfl (fun K hK => ?_)
                go_simp
                refine hK _ _ ?_
                clear hK K
                have hnews := heap_alloc_new V (.cells #[.int .i64 (p : Int), .int .i64 xk, .int .i64 xv] 32)
                have hbW := bel_trans (bel_alloc V (.cells #[.int .i64 (p : Int), .int .i64 xk, .int .i64 xv] 32)) (bel_drew _)
                have hone : ∀ u ∈ [Value.int .i64 (p : Int), .int .i64 xk, .int .i64 xv], u.oneCell' = true := by simp [Value.oneCell']
                refine anyP_one (k := 14) (by kernel_rfl) (by decide) rfl rfl ⟨hbW.block m hmltV, hbW.block vb hvltV⟩ ?_
                refine wpP_step rfl (fun K hK => ?_)
                refine step_append_row rfl _ _ 39 rfl 32 i0 _ 3 24 Try.underlying39 hi0 hz0 hz1 hz2 rfl (by omega) (.slice na q nc) q (inCells rs) (by rfl) (HRR.out.kept (fun g hg => by
                  obtain ⟨cur, hcur⟩ := HRR.out.type g hg
                  exact hbW.block g (Array.getElem?_eq_some_iff.1 hcur).1)) ⟨V.heap.size, 0, none⟩ 1 1 [.int .i64 (p : Int), .int .i64 xk, .int .i64 xv] rfl rfl (World.news_of_block (cs := #[.int .i64 (p : Int), .int .i64 xk, .int .i64 xv]) (t := 32) (fr := (0, 0)) hnews) hone (by omega) (by unfold maxLen; omega) (by omega) ?_
                intro gg cap w9 hown9 hgr9 hat9 hlt9
                refine hK _ _ ?_
                clear hK K
                have hm9 : w9.heap[m]? = V.heap[m]? := (hgr9.block m (by have := hbW.size; omega) (Ne.symm HNNE.out)).trans (hbW.block m hmltV)
                have hv9 : w9.heap[vb]? = V.heap[vb]? := (hgr9.block vb (by have := hbW.size; omega) (Ne.symm HNNV.out)).trans (hbW.block vb hvltV)
                have hrow9 := HOPV.out.row (x := ⟨(p : Int), xk, xv⟩) (g := gg) (cap := cap) hbW (by rw [HQ.out]; exact hgr9) (by rw [HQ.out]; exact hown9) (by rw [HQ.out]; rcases hat9 with h | h; exact .inl h; exact .inr h)
                rw [HQ.out] at hrow9
                have HROW9 := Lib.hid hrow9
                refine anyP_leaf ⟨hm9, hv9⟩ (by kernel_rfl) ?_
                simp only [List.drop_succ_cons, List.drop_zero]
                have y := hm9.trans HCMV.out
                have y1 := cells_at y 1 _ rfl
                have yf := cells_free y 1
                simp only [List.getElem_toArray, List.getElem_cons_zero, List.getElem_cons_succ] at y1
                have HMN := Lib.hid (show (∃ a' b' : Nat, ((#[Value.int .i64 (a : Int), .int .i64 (b : Int)] : Array Value).setIfInBounds p (.int .i64 ((c : Int) + 1)) = #[.int .i64 (a' : Int), .int .i64 (b' : Int)]) ∧ Merged A B a' b' (rs ++ [⟨(p : Int), xk, xv⟩]) ∧ a' + b' = a + b + 1) from by
                  have h1 := HQQ.out
                  have h2 := HC2.out
                  rw [← HCC.out, ← h2] at h1
                  rw [← h2]
                  have h3 := HQ.out
                  rcases (show p = 0 ∨ p = 1 by omega) with rfl | rfl
                  · refine ⟨a + 1, b, rfl, HMG.out.next0 (by rw [h3]; exact h1) rfl, by omega⟩
                  · refine ⟨a, b + 1, rfl, HMG.out.next1 (by rw [h3]; exact h1) rfl, by omega⟩)
                clear hown9 hgr9 hat9 hm9 hv9 hrow9 y hnews hbW hone
                go_wp2_with fail
                go_roundw
                case rel =>
                  obtain ⟨a', b', k1', k2', k3'⟩ := HMN.out
                  obtain ⟨r1, r2⟩ := HROW9.out
                  refine ⟨a', b', rs ++ [⟨(p : Int), xk, xv⟩], _, _, Lib.hid r1, Lib.hid (.inl HZAB.out), Lib.hid ?_, Lib.hid k2', by first | trivial | rfl⟩
                  rw [r2 ab (.inl HZAB.out), HVAB2.out, k1']
                case measure =>
                  obtain ⟨a', b', k1', k2', k3'⟩ := HMN.out
                  obtain ⟨r1, r2⟩ := HROW9.out
                  have h1 := (r2 ab (.inl HZAB.out)).trans HVAB2.out
                  rw [k1'] at h1
                  obtain ⟨q1, q2⟩ := cellN_of h1
                  obtain ⟨q3, q4⟩ := cellN_of HAB.out
                  have h2 := k2'.la
                  have h3 := k2'.lb
                  rw [q1, q2, q3, q4]
                  omega
          · have hA1 : ¬ (a : Int) < (A.length : Int) := by omega
            have hB1 : (b : Int) < (B.length : Int) := by omega
            have HFIN := Lib.hid hfin
            clear hA hfin
            go_upto_region 22 with fail
            clear a0 a1 z0 z1 c1 hA1
            go_wp2_with fail
            go_loopw [14, 15] (fun pv kv wz => ∃ k : Nat, k ≤ 2 ∧ kv = .int .i64 (k : Int) ∧ pv = .int .i64 (pickP A B a b q k) ∧ Hid (Below wr.heap.size wr wz)) (fun _ kv _ => 2 - (intOf kv).toNat)
            case atStart => exact ⟨0, by omega, rfl, rfl, Lib.hid (Below.refl _ _)⟩
            case round =>
              obtain ⟨k, hk3, rfl, rfl, HBZ⟩ := hrel
              by_cases hk4 : k < 2
              · have hkk : (k : Int) < 2 := by omega
                obtain ⟨e0, e1, ⟨la, lc, e2⟩, e3⟩ := HCF.out _ HBZ.out k hk4
                have HSTEP := Lib.hid (pickP_step (A := A) (B := B) (a := a) (b := b) (n := q) hk4)
                obtain ⟨pv, hpv⟩ : ∃ pv, pickP A B a b q k = pv := ⟨_, rfl⟩
                have HPV := Lib.hid hpv
                obtain ⟨C, hC⟩ : ∃ C, (if k = 0 then A else B) = C := ⟨_, rfl⟩
                obtain ⟨c, hc⟩ : ∃ c, (if k = 0 then a else b) = c := ⟨_, rfl⟩
                have hCl : C.length ≤ 5000000 ∧ c ≤ 5000000 := by rw [← hC, ← hc]; split <;> omega
                rw [hpv]
                rw [hc] at e0
                rw [hC] at e2
                rw [hC, hc] at e3 HSTEP
                clear hpv hC hc
                cases hq : C[c]? with
                | none =>
                  have hge := List.getElem?_eq_none_iff.1 hq
                  have hlt : ¬ (c : Int) < (C.length : Int) := by omega
                  have hlt2 : ¬ c < C.length := by omega
                  have HHD := Lib.hid (show hdIs C c q = false by unfold hdIs; rw [hq])
                  clear hq hge e3
                  go_wp2_with fail
                  go_quiet (fail)
                  go_wp2_with fail
                  go_roundw
                  case rel => exact ⟨k + 1, by omega, by go_num, by rw [HSTEP.out, HHD.out, HPV.out]; rfl, Lib.hid (bel_trans HBZ.out (by first | exact bel_drewN _ _ | exact bel_drew _))⟩
                  case measure => simp [intOf]; omega
                | some y =>
                  obtain ⟨g, lc', vb, c', y1, y2, y3, y4, y5, y6⟩ := e3 y hq
                  have hlt := (List.getElem?_eq_some_iff.1 hq).1
                  have hlt2 : (c : Int) < (C.length : Int) := by omega
                  rw [e2] at y1
                  simp only [Option.some.injEq, Value.slice.injEq, true_and] at y1
                  obtain ⟨rfl, rfl⟩ := y1
                  obtain ⟨i, xx⟩ := y
                  by_cases hiq : i = (q : Int)
                  · subst hiq
                    have HHD := Lib.hid (hdIs_iff.2 ⟨xx, hq⟩)
                    clear hq e3
                    go_wp2_with fail
                    go_quiet (fail)
                    go_wp2_with fail
                    go_roundw
                    case rel => exact ⟨k + 1, by omega, by go_num, by rw [HSTEP.out, HHD.out]; rfl, Lib.hid (bel_trans HBZ.out (by first | exact bel_drewN _ _ | exact bel_drew _))⟩
                    case measure => simp [intOf]; omega
                  · have hz : (i == (q : Int)) = false := by simpa using hiq
                    have HHD := Lib.hid (show hdIs C c q = false by unfold hdIs; rw [hq]; exact hz)
                    clear hq e3 hiq
                    go_wp2_with fail
                    go_quiet (fail)
                    go_wp2_with fail
                    go_roundw
                    case rel => exact ⟨k + 1, by omega, by go_num, by rw [HSTEP.out, HHD.out, HPV.out]; rfl, Lib.hid (bel_trans HBZ.out (by first | exact bel_drewN _ _ | exact bel_drew _))⟩
                    case measure => simp [intOf]; omega
              · obtain rfl : k = 2 := by omega
                have hkk : ¬ ((2 : Nat) : Int) < 2 := by omega
                rcases pickP_end (A := A) (B := B) (a := a) (b := b) (n := q) with ⟨p, hp, hpe, hhd⟩ | ⟨hpe, hnA, hnB⟩
                rotate_left
                · have HNO := Lib.hid (show ¬ ∃ rs, IsIn L0.rs L1.rs rs ∧ rs.length ≤ 500 from by
                    rintro ⟨rs', hi, -⟩
                    rcases HMG.out.stuck HSM.out HDA.out HDB.out HD0.out HD1.out hi with ⟨xx, -, hxx⟩ | ⟨ha, hb, -⟩
                    · rw [HQ.out] at hxx
                      rcases hxx with ⟨-, hxx⟩ | ⟨-, hxx⟩
                      · rw [hdIs_iff.2 ⟨xx, hxx⟩] at hnA; cases hnA
                      · rw [hdIs_iff.2 ⟨xx, hxx⟩] at hnB; cases hnB
                    · have := HFIN.out
                      omega)
                  rw [hpe]
                  clear hpe hnA hnB
                  go_wp2_with fail
                  go_ret2
                  exact HFAIL.out _ (by first | exact HBZ.out | exact HBZ.out.drew | exact bel_trans HBZ.out (bel_drewN _ _)) HNO.out
                rw [hpe]
                obtain ⟨xx, hq⟩ := hdIs_iff.1 hhd
                have hxp : xx.part = (p : Int) := by
                  split at hq
                  · rename_i h; rw [h]; exact (HDA.out _ (List.mem_of_getElem? hq)).1
                  · rename_i h; rw [show p = 1 by omega]; exact (HDB.out _ (List.mem_of_getElem? hq)).1
                obtain ⟨xp, xk, xv⟩ := xx
                have hxp : xp = (p : Int) := hxp
                subst hxp
                obtain ⟨e0, e1, ⟨la, lc, e2⟩, e3⟩ := HCF.out _ HBZ.out p hp
                obtain ⟨g, lc', vb, c', y1, y2, ⟨y3, y9⟩, y4, y5, y6, y7⟩ := e3 _ hq
                have HVT := Lib.hid y9
                clear y9
                rw [e2] at y1
                simp only [Option.some.injEq, Value.slice.injEq, true_and] at y1
                obtain ⟨rfl, rfl⟩ := y1
                obtain ⟨C, hC⟩ : ∃ C, (if p = 0 then A else B) = C := ⟨_, rfl⟩
                obtain ⟨c, hc⟩ : ∃ c, (if p = 0 then a else b) = c := ⟨_, rfl⟩
                have hCl : C.length ≤ 5000000 ∧ c ≤ 5000000 := by rw [← hC, ← hc]; split <;> omega
                rw [hc] at e0 y2 hq
                rw [hC] at e2 hq
                have HQQ := Lib.hid hq
                have hlt := (List.getElem?_eq_some_iff.1 hq).1
                have hlt2 : (c : Int) < (C.length : Int) := by omega
                have hp2 : (p : Int) < 2 := by omega
                have hp0 : ¬ (p : Int) < 0 := by omega
                have HCC := Lib.hid hC
                have HC2 := Lib.hid hc
                have HVAB := Lib.hid y7
                have HVLT := Lib.hid y3
                have HY := Lib.hid (fun (W' : World) (hb : Below wr.heap.size wr W') => And.intro ((hb.cell (p := ⟨vb, 0, none⟩) (by have := HBZ.out.size; show vb < _; omega)).trans y4) (And.intro ((hb.cell (p := ⟨vb, 1, none⟩) (by have := HBZ.out.size; show vb < _; omega)).trans y5) ((hb.cell (p := ⟨vb, 2, none⟩) (by have := HBZ.out.size; show vb < _; omega)).trans y6)))
                clear hq e3 hhd hpe hC hc y7 y3
                have hfz : wr.frozen? ⟨ab, p, none⟩ = false := cells_free ((HBZ.out.block ab hablt).trans HAB.out) p
                have eW : IntKind.i64.wrap ((c : Int) + 1) = (c : Int) + 1 := IntWalk.i64_in _ (by omega)
                go_wp2_with fail
                go_quiet (fail)
                obtain ⟨U, hU⟩ : ∃ U, wr.drewN nq = U := ⟨_, rfl⟩
                rw [hU]
                have hbU : Below wr.heap.size wr U := by rw [← hU]; exact bel_drewN _ _
                have hfz : U.frozen? ⟨ab, p, none⟩ = false := by rw [← hU]; exact hfz
                have e0 : U.cell? ⟨ab, p, none⟩ = some (.int .i64 (c : Int)) := by rw [← hU]; exact e0
                have HYU := Lib.hid (HY.out U hbU)
                have HBU := Lib.hid (bel_trans HBZ.out hbU)
                clear e1 e2 y2 y4 y5 y6 hU hbU
                go_upto_region 32 with fail
                clear hfz e0 eW
                have habU := (HBU.out.block ab hablt).trans HAB.out
                have hoV := Only.setCell (fun k => k = ab) U ⟨ab, p, none⟩ (.int .i64 ((c : Int) + 1)) rfl
                have hVab := cells_set habU p (.int .i64 ((c : Int) + 1))
                have hopV := (HOP.out.below HBU.out).other (.inl HZAB.out) habU hoV
                have hvlt : vb < U.heap.size := by have h1 := HBU.out.size; have h2 := HVLT.out; omega
                have hvV := hoV.block vb hvlt HVAB.out
                obtain ⟨V, hV⟩ : ∃ V, U.setCell ⟨ab, p, none⟩ (.int .i64 ((c : Int) + 1)) = V := ⟨_, rfl⟩
                rw [hV] at hVab hopV hvV ⊢
                have hVs : V.heap.size = U.heap.size := by rw [← hV]; simp
                obtain ⟨hcm, hrow, -⟩ := hopV.inp.live.cells
                have hrr : RowAt V 32 3 (.slice na rs.length nc) rs.length (inCells rs) := .inl hrow
                rw [HQ.out] at hrr hcm
                obtain ⟨u0, u1, u2'⟩ := HYU.out
                have x0 := (World.cell?_of_block (a := ⟨vb, 0, none⟩) hvV).trans u0
                have x1 := (World.cell?_of_block (a := ⟨vb, 1, none⟩) hvV).trans u1
                have x2 := (World.cell?_of_block (a := ⟨vb, 2, none⟩) hvV).trans u2'
                have HX3 := Lib.hid (And.intro x0 (And.intro x1 x2))
                have HCMV := Lib.hid hcm
                have HRR := Lib.hid hrr
                have HOPV := Lib.hid hopV
                have HVAB2 := Lib.hid hVab
                have hmltV := (Array.getElem?_eq_some_iff.1 hcm).1
                have hvltV : vb < V.heap.size := by omega
                have hnne : (Value.slice na q nc).ownBlock ≠ some m := fun e => by
                  obtain ⟨cur, hc⟩ := hrr.type m e
                  exact far hc hcm (by decide) rfl
                have hnnv : (Value.slice na q nc).ownBlock ≠ some vb := fun e => by
                  obtain ⟨cur, hc⟩ := hrr.type vb e
                  obtain ⟨cur2, hc2⟩ := HVT.out
                  exact far (hvV.trans ((HBU.out.block vb HVLT.out).trans hc2)) hc (by decide) rfl
                have HNNE := Lib.hid hnne
                have HNNV := Lib.hid hnnv
                obtain ⟨i0, hi0, hz0, hz1, hz2⟩ := info_parts infoIn
                clear hV hVs hcm hrow hrr u0 u1 u2' x0 x1 x2 hopV hVab hvV hoV habU hnne hnnv
                refine wp_region_free [0, 1, 2, 3, 4, 5, 6, 7, 8, 9, 10, 11, 12] 15 (fun W' => W'.heap[m]? = V.heap[m]? ∧ W'.heap[vb]? = V.heap[vb]?) (by kernel_rfl) (by kernel_rfl) ?_
                change wpYields _ _ _ _ [_, _, _, _, _, _, _, _, _, _, _, _, _] _
                iterate 13 (refine yields_step (fun K hK => ?_); apply Exists.intro; apply And.intro; (apply yields_at rfl; rintro W' hb; have y := hb.1.trans HCMV.out; have y1 := cells_at y 1 _ rfl; simp only [List.getElem_toArray, List.getElem_cons_zero, List.getElem_cons_succ] at y1; obtain ⟨x0, x1, x2⟩ := HX3.out; have z0 := (World.cell?_of_block (a := ⟨vb, 0, none⟩) hb.2).trans x0; have z1 := (World.cell?_of_block (a := ⟨vb, 1, none⟩) hb.2).trans x1; have z2 := (World.cell?_of_block (a := ⟨vb, 2, none⟩) hb.2).trans x2; go_simp; first | done | rfl); go_simp; refine hK _ ?_; clear hK K)
                refine yields_nil ?_
                refine anyP_one (k := 13) (by kernel_rfl) (by decide) rfl rfl ⟨rfl, rfl⟩ ?_
                refine wpP_step rfl (fun K hK => ?_)
                go_simp
                refine hK _ _ ?_
                clear hK K
                have hnews := heap_alloc_new V (.cells #[.int .i64 (p : Int), .int .i64 xk, .int .i64 xv] 32)
                have hbW := bel_trans (bel_alloc V (.cells #[.int .i64 (p : Int), .int .i64 xk, .int .i64 xv] 32)) (bel_drew _)
                have hone : ∀ u ∈ [Value.int .i64 (p : Int), .int .i64 xk, .int .i64 xv], u.oneCell' = true := by simp [Value.oneCell']
                refine anyP_one (k := 14) (by kernel_rfl) (by decide) rfl rfl ⟨hbW.block m hmltV, hbW.block vb hvltV⟩ ?_
                refine wpP_step rfl (fun K hK => ?_)
                refine step_append_row rfl _ _ 39 rfl 32 i0 _ 3 24 Try.underlying39 hi0 hz0 hz1 hz2 rfl (by omega) (.slice na q nc) q (inCells rs) (by rfl) (HRR.out.kept (fun g hg => by
                  obtain ⟨cur, hcur⟩ := HRR.out.type g hg
                  exact hbW.block g (Array.getElem?_eq_some_iff.1 hcur).1)) ⟨V.heap.size, 0, none⟩ 1 1 [.int .i64 (p : Int), .int .i64 xk, .int .i64 xv] rfl rfl (World.news_of_block (cs := #[.int .i64 (p : Int), .int .i64 xk, .int .i64 xv]) (t := 32) (fr := (0, 0)) hnews) hone (by omega) (by unfold maxLen; omega) (by omega) ?_
                intro gg cap w9 hown9 hgr9 hat9 hlt9
                refine hK _ _ ?_
                clear hK K
                have hm9 : w9.heap[m]? = V.heap[m]? := (hgr9.block m (by have := hbW.size; omega) (Ne.symm HNNE.out)).trans (hbW.block m hmltV)
                have hv9 : w9.heap[vb]? = V.heap[vb]? := (hgr9.block vb (by have := hbW.size; omega) (Ne.symm HNNV.out)).trans (hbW.block vb hvltV)
                have hrow9 := HOPV.out.row (x := ⟨(p : Int), xk, xv⟩) (g := gg) (cap := cap) hbW (by rw [HQ.out]; exact hgr9) (by rw [HQ.out]; exact hown9) (by rw [HQ.out]; rcases hat9 with h | h; exact .inl h; exact .inr h)
                rw [HQ.out] at hrow9
                have HROW9 := Lib.hid hrow9
                refine anyP_leaf ⟨hm9, hv9⟩ (by kernel_rfl) ?_
                simp only [List.drop_succ_cons, List.drop_zero]
                have y := hm9.trans HCMV.out
                have y1 := cells_at y 1 _ rfl
                have yf := cells_free y 1
                simp only [List.getElem_toArray, List.getElem_cons_zero, List.getElem_cons_succ] at y1
                have HMN := Lib.hid (show (∃ a' b' : Nat, ((#[Value.int .i64 (a : Int), .int .i64 (b : Int)] : Array Value).setIfInBounds p (.int .i64 ((c : Int) + 1)) = #[.int .i64 (a' : Int), .int .i64 (b' : Int)]) ∧ Merged A B a' b' (rs ++ [⟨(p : Int), xk, xv⟩]) ∧ a' + b' = a + b + 1) from by
                  have h1 := HQQ.out
                  have h2 := HC2.out
                  rw [← HCC.out, ← h2] at h1
                  rw [← h2]
                  have h3 := HQ.out
                  rcases (show p = 0 ∨ p = 1 by omega) with rfl | rfl
                  · refine ⟨a + 1, b, rfl, HMG.out.next0 (by rw [h3]; exact h1) rfl, by omega⟩
                  · refine ⟨a, b + 1, rfl, HMG.out.next1 (by rw [h3]; exact h1) rfl, by omega⟩)
                clear hown9 hgr9 hat9 hm9 hv9 hrow9 y hnews hbW hone
                go_wp2_with fail
                go_roundw
                case rel =>
                  obtain ⟨a', b', k1', k2', k3'⟩ := HMN.out
                  obtain ⟨r1, r2⟩ := HROW9.out
                  refine ⟨a', b', rs ++ [⟨(p : Int), xk, xv⟩], _, _, Lib.hid r1, Lib.hid (.inl HZAB.out), Lib.hid ?_, Lib.hid k2', by first | trivial | rfl⟩
                  rw [r2 ab (.inl HZAB.out), HVAB2.out, k1']
                case measure =>
                  obtain ⟨a', b', k1', k2', k3'⟩ := HMN.out
                  obtain ⟨r1, r2⟩ := HROW9.out
                  have h1 := (r2 ab (.inl HZAB.out)).trans HVAB2.out
                  rw [k1'] at h1
                  obtain ⟨q1, q2⟩ := cellN_of h1
                  obtain ⟨q3, q4⟩ := cellN_of HAB.out
                  have h2 := k2'.la
                  have h3 := k2'.lb
                  rw [q1, q2, q3, q4]
                  omega
        · have hA1 : ¬ (a : Int) < (A.length : Int) := by omega
          have hB1 : ¬ (b : Int) < (B.length : Int) := by omega
          obtain rfl : a = A.length := by omega
          obtain rfl : b = B.length := by omega
          have HIS := Lib.hid (Merged.done HDA.out HDB.out HD0.out HD1.out HMG.out)
          by_cases h500 : 500 < q
          · have hd5 : decide ((500 : Int) < (q : Int)) = true := by simp; omega
            have H5 := Lib.hid h500
            clear h500 hfin
            go_wp2_with fail
            go_ret2
            refine HFAIL.out _ (by first | exact Below.refl _ _ | exact bel_drew _ | exact bel_drewN _ _) ?_
            rintro ⟨rs', hi, hl⟩
            have h1 := HQ.out
            rw [HIS.out.one hi HSM.out] at h1
            have := H5.out
            omega
          · have hd5 : decide ((500 : Int) < (q : Int)) = false := by simp; omega
            have H5 := Lib.hid (show rs.length ≤ 500 by rw [HQ.out]; omega)
            clear h500 hfin
            go_wp2_with fail
            go_ret2
            exact ⟨_, _, _, Opened.isGood HO0.out HO1.out HIS.out H5.out, .inr ⟨_, m, l0, l1, _, _, rfl, rfl, rfl, rfl, HOP.out.inp.live⟩⟩

end Go.Proofs.Ytllecjhfbojgcaa
