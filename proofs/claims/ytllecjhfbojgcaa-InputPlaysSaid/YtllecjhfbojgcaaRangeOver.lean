/-
  A loop over an iterator that keeps its place in a variable of its own: the law for the caller.
-/
import Derived.Test.YtllecjhfbojgcaaLib
import Derived.RangeFuncWrites
import Derived.RangeFuncBox
import Derived.RangeFuncCalls
import Derived.RangeFuncLeaves
namespace Go.Proofs.Ytllecjhfbojgcaa
open Go.RowKit
set_option maxRecDepth 20000

/-- What is said of a world outlasts new blocks, a turn of block x, and turns of blocks without cells from B on. -/
def Stands (B x : Nat) (I : World → Prop) : Prop :=
  ∀ W W' row, I W → W.grownBy W' row → (∀ r, row = some r → r = x ∨ (B ≤ r ∧ ∃ o : Obj, W.heap[r]? = some o ∧ o.isCells = false)) → I W'

theorem Stands.new {B x : Nat} {I : World → Prop} (h : Stands B x I) {W : World} (o : Obj) (hi : I W) : I (W.alloc o) :=
  h W _ none hi (World.grownBy_alloc W o none) (fun r e => by cases e)
theorem Stands.turn {B x : Nat} {I : World → Prop} (h : Stands B x I) {W : World} {r : Nat} {o : Obj} (o' : Obj) (hi : I W) (hB : B ≤ r) (ho : W.heap[r]? = some o) (hc : o.isCells = false) : I (W.putObj r o') :=
  h W _ (some r) hi (grownBy_putObj' W r o') (fun r' e => by cases e; exact .inr ⟨hB, o, ho, hc⟩)
theorem Stands.own {B x : Nat} {I : World → Prop} (h : Stands B x I) {W W' : World} (hi : I W) (hg : W.grownBy W' (some x)) : I W' :=
  h W W' _ hi hg (fun r e => by cases e; exact .inl rfl)
theorem Stands.and {B x : Nat} {I I' : World → Prop} (h : Stands B x I) (h' : Stands B x I') : Stands B x (fun W => I W ∧ I' W) :=
  fun W W' row hi hg hr => ⟨h W W' row hi.1 hg hr, h' W W' row hi.2 hg hr⟩
theorem Stands.pure {B x : Nat} (p : Prop) : Stands B x (fun _ => p) := fun _ _ _ hi _ _ => hi
theorem Stands.ex {B x : Nat} {β : Type} {I : β → World → Prop} (h : ∀ b, Stands B x (I b)) : Stands B x (fun W => ∃ b, I b W) :=
  fun W W' row ⟨b, hi⟩ hg hr => ⟨b, h b W W' row hi hg hr⟩
/-- A block of cells that is not x, or lies below B and is not x. -/
theorem Stands.block {B x b : Nat} {o : Obj} (hb : b ≠ x) (hlt : b < B) : Stands B x (fun W => W.heap[b]? = some o) := by
  intro W W' row hi hg hr
  refine (hg.block b (Array.getElem?_eq_some_iff.1 hi).1 ?_).trans hi
  intro e
  rcases hr b e.symm with h | ⟨h, _⟩
  · exact hb h
  · omega
theorem Stands.cell {B x : Nat} {p : Addr} {v : Value} (hb : p.block ≠ x) : Stands B x (fun W => W.cell? p = some v) := by
  intro W W' row hi hg hr
  obtain ⟨o, ho, hc⟩ := cells_of_cell hi
  refine (World.cell?_of_block (hg.block _ (Array.getElem?_eq_some_iff.1 ho).1 ?_)).trans hi
  intro e
  rcases hr _ e.symm with h | ⟨_, o', ho', hc'⟩
  · exact hb h
  · rw [ho] at ho'; cases ho'; rw [hc] at hc'; cases hc'
theorem Stands.cellf {B x : Nat} {p : Addr} {v : Value} (hb : p.block ≠ x) : Stands B x (fun W => W.cell? p = some v ∧ W.frozen? p = false) := by
  intro W W' row hi hg hr
  obtain ⟨o, ho, hc⟩ := cells_of_cell hi.1
  have hne : some p.block ≠ row := by
    intro e
    rcases hr _ e.symm with h | ⟨_, o', ho', hc'⟩
    · exact hb h
    · rw [ho] at ho'; cases ho'; rw [hc] at hc'; cases hc'
  have hbk := hg.block _ (Array.getElem?_eq_some_iff.1 ho).1 hne
  exact ⟨(World.cell?_of_block hbk).trans hi.1, (World.frozen?_of_block hbk).trans hi.2⟩
theorem Stands.below {B x n₀ : Nat} {w : World} (hx : n₀ ≤ x) (hB : n₀ ≤ B) (hs : n₀ ≤ w.heap.size) : Stands B x (fun W => Below n₀ w W) := by
  intro W W' row hi hg hr
  refine hi.grown hg ?_ ?_
  · exact Nat.le_trans hs hi.size
  · intro k e
    rcases hr k e with h | ⟨h, _⟩ <;> omega

theorem Stands.size {B x n : Nat} : Stands B x (fun W => n ≤ W.heap.size) := fun _ _ _ hi hg _ => Nat.le_trans hi hg.size
theorem keeps_below {B : Nat} {W W' : World} (h : Below W.heap.size W W') : KeepsFrom B W W' := ⟨h.size, fun k _ _ hk _ => (h.block k (Array.getElem?_eq_some_iff.1 hk).1).trans hk⟩
theorem keeps_set {B : Nat} {W W' : World} (h : KeepsFrom B W W') (a : Addr) (v : Value) : KeepsFrom B W (W'.setCell a v) := h.trans ((KeepsOthers.setCell _ _ _).from _)

theorem boxed_below {W W' : World} {B : Nat} {t : TypeId} {v : Value} (h : Boxed W B t v) (hb : Below W.heap.size W W') : Boxed W' B t v := (hb.block B h.lt).trans h

/-- An iterator that hands over the items, keeping its place in block x. -/
def Gives {α : Type} (F : Fence) (n : Nat) (P : Program) (gf : Nat) (lb : Array Value) (encs : α → Array Value) (items : List α) (x : Nat) (w : World) : Prop :=
  ∀ (l : Nat) (J Jx : Nat → World → Prop) (W : World), W.heap[x]? = w.heap[x]? →
    (∀ k A A', J k A → A.grownBy A' (some x) → J k A') →
    (∀ k y A, items[k]? = some y → J k A → YieldAt F (n - 1) P l (encs y) A fun e A' =>
      (e = .returned (.bool true) ∧ J (k + 1) A' ∧ A'.heap[x]? = A.heap[x]?) ∨ (e = .returned (.bool false) ∧ Jx (k + 1) A')) →
    J 0 W → CallsIn F n P gf (#[.func (.yield l) #[] #[]] ++ lb) W fun e W' => (∃ v, e = .returned v) ∧ (J items.length W' ∨ ∃ k, k < items.length ∧ Jx (k + 1) W')

/-- How a round's body may be left. -/
def Leaves (B x : Nat) (I : Nat → World → Prop) (Ix : Code → Nat → World → Prop) (k : Nat) (W : World) : Exit → Act → World → Prop
  | .normal, _, W' => KeepsFrom B W W' ∧ W'.heap[x]? = W.heap[x]? ∧ I k W'
  | .ret, _, W' => KeepsFrom B W W' ∧ Ix .ret k W'
  | .exit id, _, W' => KeepsFrom B W W' ∧ Ix (.exit id) k W'
  | .goto t, _, W' => KeepsFrom B W W' ∧ Ix (.goto t) k W'
  | .panic _, _, _ => False
  | .outgrown, _, _ => False

/-- The loop's two blocks. -/
structure Ring (l D : Nat) (r : LoopState → Option Code → Loop) (st : LoopState) (pe : Option Code) (W : World) : Prop where
  loop : W.heap[l]? = some (.loop (r st pe))
  bag : W.heap[D]? = some (.deferred (some []))

theorem Ring.put {l D : Nat} {r : LoopState → Option Code → Loop} {st st' : LoopState} {pe pe' : Option Code} {W : World} (h : Ring l D r st pe W) (hne : l ≠ D) : Ring l D r st' pe' (W.putObj l (.loop (r st' pe'))) :=
  ⟨World.putObj_heap_same (Array.getElem?_eq_some_iff.1 h.loop).1, (World.putObj_heap_other (fun e => hne e.symm)).trans h.bag⟩
theorem Ring.grown {l D x : Nat} {r : LoopState → Option Code → Loop} {st : LoopState} {pe : Option Code} {W W' : World} (h : Ring l D r st pe W) (hg : W.grownBy W' (some x)) (hl : l ≠ x) (hD : D ≠ x) : Ring l D r st pe W' :=
  ⟨(hg.block l (Array.getElem?_eq_some_iff.1 h.loop).1 (by simpa using hl)).trans h.loop, (hg.block D (Array.getElem?_eq_some_iff.1 h.bag).1 (by simpa using hD)).trans h.bag⟩
theorem Ring.keeps {l D B : Nat} {r : LoopState → Option Code → Loop} {st : LoopState} {pe : Option Code} {W W' : World} (h : Ring l D r st pe W) (hk : KeepsFrom B W W') (hl : B ≤ l) (hD : B ≤ D) : Ring l D r st pe W' :=
  ⟨hk.same l _ hl h.loop rfl, hk.same D _ hD h.bag rfl⟩

def ringRec (fn : FuncId) (tmps : Array Value) (ps : Array Tmp) (assign body : Code) (D : Nat) (st : LoopState) (pe : Option Code) : Loop :=
  { state := st, pending := pe, fn := fn, tmps := tmps, params := ps, assign := assign, body := body, defers := D }

theorem over_items {α : Type} {F : Fence} {n : Nat} {P : Program} {g : Operand} {ps : Array Tmp} {assign body : Code} {Q : Exit → Act → World → Prop} {a : Act} {w : World}
    (hro : F.round = none) (h1 : 1 ≤ n) {gf : Nat} {lb : Array Value} (hg : a.eval g = .func (.func gf) #[] lb) (hFg : F.fn gf) (eg : ∀ args w, (callFunc gf args).run P w = .ok (.enter gf args) w)
    {encs : α → Array Value} {items : List α} {x : Nat} (hx : x < w.heap.size) (hgives : Gives F (n - 1) P gf lb encs items x w) (hps : ∀ y, (encs y).size = ps.size)
    (I : Nat → World → Prop) (Ix : Code → Nat → World → Prop) (hI : ∀ k, Stands w.heap.size x (I k)) (hIx : ∀ c k, Stands w.heap.size x (Ix c k)) (h0 : I 0 w) (a₁ : α → Act)
    (hassign : ∀ (l : Nat) (y : α) (W : World) (K : Act → World → Prop), K (a₁ y) W →
      assign.wpIn (F.inRound l) (n - 1 - 1) P (Exit.then K (fun _ _ _ => False)) { tmps := (ps.zip (encs y)).foldl (fun t (p, v) => t.setIfInBounds p v) a.tmps, defers := [] } W)
    (hbody : ∀ (l k : Nat) (y : α) (W : World), items[k]? = some y → I k W → body.wpIn (F.inRound l) (n - 1 - 1) P (Leaves w.heap.size x I Ix (k + 1) W) (a₁ y) W)
    (hdone : ∀ (D : Nat) (W : World), w.heap.size ≤ D → I items.length W → W.heap[D]? = some (.deferred (some [])) → Q .normal { a with defers := { target := .collected D, args := #[] } :: a.defers } W)
    (hstop : ∀ (D : Nat) (c : Code) (k : Nat) (W : World), w.heap.size ≤ D → k < items.length → Ix c (k + 1) W → W.heap[D]? = some (.deferred (some [])) → c.wpIn F n P Q { a with defers := { target := .collected D, args := #[] } :: a.defers } W) :
    (Code.rangeFunc g ps assign body).wpIn F n P Q a w := by
  refine wpIn_rangeFunc fun fn hfn => ?_
  rw [hro]
  have hsz : (w.alloc (.deferred (some []))).heap.size = w.heap.size + 1 := World.size_alloc _ _
  obtain ⟨r, hr⟩ : ∃ r, ringRec fn a.tmps ps assign body w.heap.size = r := ⟨_, rfl⟩
  have hrp : ∀ st pe, (r st pe).params = ps := fun st pe => by rw [← hr]; rfl
  obtain ⟨W1, hW1⟩ : ∃ W1, (w.alloc (.deferred (some []))).alloc (.loop (r .ready none)) = W1 := ⟨_, rfl⟩
  have hring : Ring (w.heap.size + 1) w.heap.size r .ready none W1 := by
    rw [← hW1]
    constructor
    · have h := World.alloc_heap_new (w.alloc (.deferred (some []))) (.loop (r .ready none))
      rwa [hsz] at h
    · exact (Below.heap_alloc _ _ _ (by omega)).trans (World.alloc_heap_new w _)
  have hi1 : I 0 W1 := by rw [← hW1]; exact (hI 0).new _ ((hI 0).new _ h0)
  have hx1 : W1.heap[x]? = w.heap[x]? := by
    rw [← hW1]; exact (Below.heap_alloc _ _ _ (by omega)).trans (Below.heap_alloc _ _ _ hx)
  have hback : ∀ (jump : Option Code) (k : Nat) (W W3 : World) (K : World → Prop), Stands w.heap.size x K → Ring (w.heap.size + 1) w.heap.size r .ready none W → KeepsFrom w.heap.size (W.putObj (w.heap.size + 1) (.loop (r .busy none))) W3 → K W3 →
      ∃ W4, (Instr.endRound (w.heap.size + 1) jump).run P W3 = .ok (.bool jump.isNone) W4 ∧ Ring (w.heap.size + 1) w.heap.size r (if jump.isNone then .ready else .done) jump W4 ∧ K W4 ∧ W4.heap[x]? = W3.heap[x]? := by
    intro jump k W W3 K hK hrg hkf hk3
    have hrg3 := (hrg.put (st' := .busy) (pe' := none) (by omega)).keeps hkf (by omega) (Nat.le_refl _)
    have hrun := run_endRound (P := P) jump hrg3.loop
    have e : ({ r .busy none with state := if jump.isNone then .ready else .done, pending := jump } : Loop) = r (if jump.isNone then .ready else .done) jump := by rw [← hr]; rfl
    rw [e] at hrun
    exact ⟨_, hrun, hrg3.put (by omega), hK.turn _ hk3 (by omega) hrg3.loop rfl, World.putObj_heap_other (by omega)⟩
  refine ⟨w.heap.size + 1, [{ target := .collected w.heap.size, args := #[] }], W1, { target := .fn (.func gf) lb, args := #[.func (.yield (w.heap.size + 1)) #[] #[]] }, W1, gf,
    #[.func (.yield (w.heap.size + 1)) #[] #[]] ++ lb, W1, ?_, ?_, ?_, ?_, fun _ => h1, ?_⟩
  · rw [← hW1, ← hr]; exact run_enterLoop_outer _ _ _ _ _
  · simp only [resolve, hg]
    simp [go_sem]
  · intro f' hf'; simp [Target.leads] at hf'; subst hf'; exact hFg
  · simp [invoke, go_sem, eg]
  refine (hgives (w.heap.size + 1)
    (fun k W => I k W ∧ Ring (w.heap.size + 1) w.heap.size r .ready none W)
    (fun k W => ∃ c, Ix c k W ∧ Ring (w.heap.size + 1) w.heap.size r .done (some c) W)
    W1 hx1 (fun k A A' h hgr => ⟨(hI k).own h.1 hgr, h.2.grown hgr (by omega) (by omega)⟩) ?round ⟨hi1, hring⟩).mono ?behind
  case round =>
    rintro k y A hy ⟨hik, hrg⟩
    have hyl := run_yield (P := P) (args := encs y) hrg.loop (by rw [hrp]; exact hps y)
    rw [← hr] at hyl
    refine ⟨fn, _, assign, body, hyl, roundIn_of_wpIn hfn (hassign _ y A _ ?_)⟩
    have hbr := run_beginRound (P := P) hrg.loop (by rw [← hr]; rfl)
    have eb : ({ r .ready none with state := .busy } : Loop) = r .busy none := by rw [← hr]; rfl
    rw [eb] at hbr
    refine ⟨_, hbr, ?_⟩
    refine wpIn_mono (hbody _ k y _ hy ((hI k).turn _ hik (by omega) hrg.loop rfl)) ?_
    rintro e a3 W3 hp
    cases e with
    | normal =>
      obtain ⟨hkf, hxx, hi3⟩ := hp
      obtain ⟨W4, hrun, hrg4, hi4, hx4⟩ := hback none k A W3 _ (hI (k + 1)) hrg hkf hi3
      exact ⟨_, _, hrun, .inl ⟨rfl, ⟨hi4, hrg4⟩, (hx4.trans hxx).trans (World.putObj_heap_other (by omega))⟩⟩
    | ret =>
      obtain ⟨W4, hrun, hrg4, hi4, -⟩ := hback (some .ret) k A W3 _ (hIx .ret (k + 1)) hrg hp.1 hp.2
      exact ⟨_, _, hrun, .inr ⟨rfl, .ret, hi4, hrg4⟩⟩
    | exit id =>
      obtain ⟨W4, hrun, hrg4, hi4, -⟩ := hback (some (.exit id)) k A W3 _ (hIx (.exit id) (k + 1)) hrg hp.1 hp.2
      exact ⟨_, _, hrun, .inr ⟨rfl, .exit id, hi4, hrg4⟩⟩
    | goto t =>
      obtain ⟨W4, hrun, hrg4, hi4, -⟩ := hback (some (.goto t)) k A W3 _ (hIx (.goto t) (k + 1)) hrg hp.1 hp.2
      exact ⟨_, _, hrun, .inr ⟨rfl, .goto t, hi4, hrg4⟩⟩
    | panic ch => exact hp.elim
    | outgrown => exact hp.elim
  case behind =>
    rintro e W2 ⟨⟨v, rfl⟩, (⟨hi, hrg⟩ | ⟨k, hk, c, hi, hrg⟩)⟩
    · have hend := run_endLoop (P := P) hrg.loop (by rw [← hr]; simp [ringRec])
      refine ⟨none, _, by rw [hend, ← hr]; rfl, ?_⟩
      exact hdone _ _ (Nat.le_refl _) ((hI _).turn _ hi (by omega) hrg.loop rfl) ((World.putObj_heap_other (by omega)).trans hrg.bag)
    · have hend := run_endLoop (P := P) hrg.loop (by rw [← hr]; simp [ringRec])
      refine ⟨some c, _, by rw [hend, ← hr]; rfl, ?_⟩
      exact hstop _ c k _ (Nat.le_refl _) hk ((hIx c _).turn _ hi (by omega) hrg.loop rfl) ((World.putObj_heap_other (by omega)).trans hrg.bag)

/-- The same; the frame behind the assignment is found by the walk itself. -/
theorem over_items' {α : Type} {F : Fence} {n : Nat} {P : Program} {g : Operand} {ps : Array Tmp} {assign body : Code} {Q : Exit → Act → World → Prop} {a : Act} {w : World}
    (hro : F.round = none) (h1 : 1 ≤ n) {gf : Nat} {lb : Array Value} (hg : a.eval g = .func (.func gf) #[] lb) (hFg : F.fn gf) (eg : ∀ args w, (callFunc gf args).run P w = .ok (.enter gf args) w)
    {encs : α → Array Value} {items : List α} {x : Nat} (hx : x < w.heap.size) (hgives : Gives F (n - 1) P gf lb encs items x w) (hps : ∀ y, (encs y).size = ps.size)
    (I : Nat → World → Prop) (Ix : Code → Nat → World → Prop) (hI : ∀ k, Stands w.heap.size x (I k)) (hIx : ∀ c k, Stands w.heap.size x (Ix c k)) (h0 : I 0 w)
    (hround : ∃ a₁ : α → Act, (∀ (l : Nat) (y : α) (W : World) (K : Act → World → Prop), K (a₁ y) W →
      assign.wpIn (F.inRound l) (n - 1 - 1) P (Exit.then K (fun _ _ _ => False)) { tmps := (ps.zip (encs y)).foldl (fun t (p, v) => t.setIfInBounds p v) a.tmps, defers := [] } W) ∧
      (∀ (l k : Nat) (y : α) (W : World), items[k]? = some y → I k W → body.wpIn (F.inRound l) (n - 1 - 1) P (Leaves w.heap.size x I Ix (k + 1) W) (a₁ y) W))
    (hdone : ∀ (D : Nat) (W : World), w.heap.size ≤ D → I items.length W → W.heap[D]? = some (.deferred (some [])) → Q .normal { a with defers := { target := .collected D, args := #[] } :: a.defers } W)
    (hstop : ∀ (D : Nat) (c : Code) (k : Nat) (W : World), w.heap.size ≤ D → k < items.length → Ix c (k + 1) W → W.heap[D]? = some (.deferred (some [])) → c.wpIn F n P Q { a with defers := { target := .collected D, args := #[] } :: a.defers } W) :
    (Code.rangeFunc g ps assign body).wpIn F n P Q a w :=
  let ⟨a₁, ha, hb⟩ := hround
  over_items hro h1 hg hFg eg hx hgives hps I Ix hI hIx h0 a₁ ha hb hdone hstop

end Go.Proofs.Ytllecjhfbojgcaa
