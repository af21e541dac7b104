/-
  The output in memory.
-/
import Derived.Test.YtllecjhfbojgcaaOutPlain
import Derived.Test.YtllecjhfbojgcaaFr
namespace Go.Proofs.Ytllecjhfbojgcaa
open Go.RowKit
set_option maxRecDepth 20000

def outCells (l : List OutX) : List Value := ints (flatO l)
theorem outCells_len (l : List OutX) : (outCells l).length = l.length * 2 := by unfold outCells ints; rw [List.length_map, flatO_len]
theorem outCells_app (a b : List OutX) : outCells (a ++ b) = outCells a ++ outCells b := by unfold outCells ints; rw [flatO_app, List.map_append]
theorem outCells_at (l : List OutX) (k : Nat) (x : OutX) (h : l[k]? = some x) : (outCells l)[k * 2]? = some (.int .i64 x.key) ∧ (outCells l)[k * 2 + 1]? = some (.int .i64 x.val) := by
  obtain ⟨h1, h2⟩ := flatO_at l k x h
  unfold outCells ints
  rw [List.getElem?_map, List.getElem?_map, h1, h2]
  exact ⟨rfl, rfl⟩
/-- Records, each with its row. -/
def oCells (qs : List (ORec × Value)) : List Value := qs.flatMap fun q => [.int .u8 (q.1.kind.toNat : Int), .int .i64 q.1.n, q.2]
theorem oCells_len (qs : List (ORec × Value)) : (oCells qs).length = qs.length * 3 := by
  induction qs with
  | nil => rfl
  | cons q qs ih => rw [List.length_cons, Nat.add_mul, ← ih]; simp [oCells]
theorem oCells_snoc (qs : List (ORec × Value)) (q : ORec × Value) : oCells (qs ++ [q]) = oCells qs ++ [.int .u8 (q.1.kind.toNat : Int), .int .i64 q.1.n, q.2] := by simp [oCells]
theorem oCells_at (qs : List (ORec × Value)) : ∀ (k : Nat) (q : ORec × Value), qs[k]? = some q → (oCells qs)[k * 3]? = some (.int .u8 (q.1.kind.toNat : Int)) ∧ (oCells qs)[k * 3 + 1]? = some (.int .i64 q.1.n) ∧ (oCells qs)[k * 3 + 2]? = some q.2 := by
  induction qs with
  | nil => intro k q h; simp at h
  | cons y qs ih =>
    intro k q h
    cases k with
    | zero =>
      simp only [List.getElem?_cons_zero, Option.some.injEq] at h
      subst h
      exact ⟨rfl, rfl, rfl⟩
    | succ k =>
      obtain ⟨h1, h2, h3⟩ := ih k q (by simpa using h)
      rw [show (k + 1) * 3 = k * 3 + 1 + 1 + 1 by omega]
      exact ⟨h1, h2, h3⟩
theorem oCells_take (qs : List (ORec × Value)) : ∀ k, oCells (qs.take k) = (oCells qs).take (k * 3) := by
  induction qs with
  | nil => intro k; simp [oCells]
  | cons x qs ih =>
    intro k
    cases k with
    | zero => simp [oCells]
    | succ k =>
      rw [show (k + 1) * 3 = k * 3 + 1 + 1 + 1 by omega, List.take_succ_cons]
      have := ih k
      simp only [oCells, List.flatMap_cons] at this ⊢
      rw [this]
      rfl

/-- A row that is read stands while its block does. -/
theorem Reads.ownKept {w w' : World} {v : Value} {n : Nat} {cs : List Value} (h : Reads w v n cs) (hs : w.heap.size ≤ w'.heap.size) (hk : ∀ g, v.ownBlock = Option.some g → w'.heap[g]? = w.heap[g]?) : Reads w' v n cs := by
  rcases h with h | ⟨b, o, k, rfl, h2, h3, h4, h5⟩
  · exact .inl h
  · exact .inr ⟨b, o, k, rfl, h2, h3, by omega, fun i v hv => (World.cell?_of_block (hk b rfl)).trans (h5 i v hv)⟩
theorem RowAt.lt {w : World} {e : TypeId} {size n : Nat} {v : Value} {xs : List Value} (h : RowAt w e size v n xs) : ∀ b, v.ownBlock = some b → b < w.heap.size := fun b hb => by
  obtain ⟨cur, hcur⟩ := h.type b hb
  exact (Array.getElem?_eq_some_iff.1 hcur).1
theorem RowAt.below {w w' : World} {e : TypeId} {size n : Nat} {v : Value} {xs : List Value} (h : RowAt w e size v n xs) (hb : Below w.heap.size w w') : RowAt w' e size v n xs :=
  h.kept (fun b h1 => hb.block b (h.lt b h1))

/-- A record's row lies in a block of its own kind. -/
def OwnsOut (w : World) (v : Value) (P : Nat → Prop) : Prop := ∀ g, v.ownBlock = some g → P g ∧ ∃ cur, w.heap[g]? = some (.cells cur 84)
theorem OwnsOut.kept {w w' : World} {v : Value} {P : Nat → Prop} (h : OwnsOut w v P) (hk : ∀ k, P k → w'.heap[k]? = w.heap[k]?) : OwnsOut w' v P := fun g hg => by
  obtain ⟨h1, cur, h2⟩ := h g hg
  exact ⟨h1, cur, (hk g h1).trans h2⟩
theorem OwnsOut.mono {w : World} {v : Value} {P P' : Nat → Prop} (h : OwnsOut w v P) (hk : ∀ k, P k → P' k) : OwnsOut w v P' := fun g hg => ⟨hk g (h g hg).1, (h g hg).2⟩
structure PartAt (w : World) (b l : Nat) (rs : List ORec) (P : Nat → Prop) : Prop where
  mem : P b
  lt : ∀ k, P k → k < w.heap.size
  ex : ∃ lv qs, w.heap[b]? = some (.cells #[ptr l 0, lv] 140) ∧ RowAt w 142 3 lv rs.length (oCells qs) ∧ qs.map (·.1) = rs ∧ (∀ g, lv.ownBlock = some g → P g) ∧ ∀ q ∈ qs, Reads w q.2 q.1.l.length (outCells q.1.l) ∧ OwnsOut w q.2 P
theorem PartAt.kept {w w' : World} {b l : Nat} {rs : List ORec} {P : Nat → Prop} (h : PartAt w b l rs P) (hk : ∀ k, P k → w'.heap[k]? = w.heap[k]?) (hs : w.heap.size ≤ w'.heap.size) : PartAt w' b l rs P := by
  obtain ⟨lv, qs, h1, h2, h3, h4, h5⟩ := h.ex
  exact ⟨h.mem, fun k hk' => Nat.lt_of_lt_of_le (h.lt k hk') hs, lv, qs, (hk b h.mem).trans h1, h2.kept (fun g hg => hk g (h4 g hg)), h3, h4, fun q hq => ⟨(h5 q hq).1.ownKept hs (fun g hg => hk g ((h5 q hq).2 g hg).1), (h5 q hq).2.kept hk⟩⟩
theorem PartAt.below {w w' : World} {b l : Nat} {rs : List ORec} {P : Nat → Prop} (h : PartAt w b l rs P) (hb : Below w.heap.size w w') : PartAt w' b l rs P := h.kept (fun k hk => hb.block k (h.lt k hk)) hb.size
theorem PartAt.only {w w' : World} {b l : Nat} {rs : List ORec} {P F : Nat → Prop} (h : PartAt w b l rs P) (hb : Only F w w') (hd : ∀ k, P k → ¬ F k) : PartAt w' b l rs P := h.kept (fun k hk => hb.block k (h.lt k hk) (hd k hk)) hb.size

/-- The blocks of each by a number: the disk's 1, the logs' 2 and 3, the parts' 4 and 5, the output's 6, all others' 0. -/
def cG (p : Bool) : Nat := if p then 3 else 2
def cP (p : Bool) : Nat := if p then 5 else 4
structure OutAt (fr : Fr) (w : World) (o d : Nat) (b l : Bool → Nat) (S : OSt) (col : Nat → Nat) : Prop where
  old : Since fr w
  keep : ∀ k, fr.K k → col k = 0
  lt : ∀ k, col k ≠ 0 → k < w.heap.size
  disk : DiskAt w d S.D (fun k => col k = 1)
  log : ∀ p, LogAt w (l p) d (fO p) (S.L p) (fun k => col k = cG p)
  part : ∀ p, PartAt w (b p) (l p) (S.r p) (fun k => col k = cP p)
  cell : w.heap[o]? = some (.cells #[ptr (b false) 0, ptr (b true) 0] 137)
  co : col o = 6
def OutLive (fr : Fr) (w : World) (o d : Nat) (S : OSt) : Prop := ∃ b l col, OutAt fr w o d b l S col

theorem cG_ne (p : Bool) : cG p ≠ 0 ∧ cG p ≠ 1 ∧ cG p ≠ 6 ∧ (∀ q, cG p ≠ cP q) := by cases p <;> refine ⟨by decide, by decide, by decide, fun q => ?_⟩ <;> cases q <;> decide
theorem cP_ne (p : Bool) : cP p ≠ 0 ∧ cP p ≠ 1 ∧ cP p ≠ 6 ∧ (∀ q, cP p ≠ cG q) := by cases p <;> refine ⟨by decide, by decide, by decide, fun q => ?_⟩ <;> cases q <;> decide
theorem cG_inj {p q : Bool} (h : q ≠ p) : cG q ≠ cG p := by cases p <;> cases q <;> first | exact absurd rfl h | decide
theorem cP_inj {p q : Bool} (h : q ≠ p) : cP q ≠ cP p := by cases p <;> cases q <;> first | exact absurd rfl h | decide

theorem OutAt.only {fr : Fr} {w w' : World} {o d : Nat} {b l : Bool → Nat} {S : OSt} {col : Nat → Nat} (h : OutAt fr w o d b l S col) {X : Nat → Prop} (ho : Only X w w') (hX : ∀ k, X k → col k = 0 ∧ ¬ fr.K k) : OutAt fr w' o d b l S col := by
  have hs := ho.size
  have hne : ∀ {c k}, c ≠ 0 → col k = c → ¬ X k := fun hc hk hx => hc (hk.symm.trans (hX _ hx).1)
  exact ⟨h.old.only ho (fun i hi => (hX i hi).2), h.keep, fun k hk => Nat.lt_of_lt_of_le (h.lt k hk) hs, h.disk.only ho (fun k hk => hne (by decide) hk), fun p => (h.log p).only ho (fun k hk => hne (cG_ne p).1 hk), fun p => (h.part p).only ho (fun k hk => hne (cP_ne p).1 hk),
    (ho.block o ((Array.getElem?_eq_some_iff.1 h.cell).1) (hne (by decide) h.co)).trans h.cell, h.co⟩
theorem OutAt.below {fr : Fr} {w w' : World} {o d : Nat} {b l : Bool → Nat} {S : OSt} {col : Nat → Nat} (h : OutAt fr w o d b l S col) (hb : Below w.heap.size w w') : OutAt fr w' o d b l S col := h.only (X := fun _ => False) (Only.below hb) (fun _ h => h.elim)
theorem OutAt.drew {fr : Fr} {w : World} {o d : Nat} {b l : Bool → Nat} {S : OSt} {col : Nat → Nat} (h : OutAt fr w o d b l S col) : OutAt fr w.drew o d b l S col := h.below (bel_drew w)

/-- Blocks that are nobody's become a part's. -/
theorem OutAt.adopt {fr : Fr} {w : World} {o d : Nat} {b l : Bool → Nat} {S : OSt} {col : Nat → Nat} (h : OutAt fr w o d b l S col) (p : Bool) (X : Nat → Prop) (hX : ∀ k, X k → col k = 0 ∧ ¬ fr.K k ∧ k < w.heap.size) : ∃ col', OutAt fr w o d b l S col' ∧ (∀ k, X k → col' k = cP p) ∧ ∀ k, ¬ X k → col' k = col k := by
  classical
  have hsame : ∀ {c k}, c ≠ 0 → col k = c → (if X k then cP p else col k) = c := fun hc hk => by
    rw [if_neg (fun hx => hc (hk.symm.trans (hX _ hx).1)), hk]
  have hback : ∀ {c}, c ≠ 0 → c ≠ cP p → (fun k => (if X k then cP p else col k) = c) = fun k => col k = c := fun hc hp => by
    funext k
    apply propext
    by_cases hx : X k
    · rw [if_pos hx]
      exact ⟨fun e => absurd e.symm hp, fun e => absurd (e.symm.trans (hX k hx).1) hc⟩
    · rw [if_neg hx]
  refine ⟨fun k => if X k then cP p else col k, ⟨h.old, fun k hk => ?_, fun k hk => ?_, ?_, fun q => ?_, fun q => ?_, h.cell, hsame (by decide) h.co⟩, fun k hk => if_pos hk, fun k hk => if_neg hk⟩
  · show (if X k then cP p else col k) = 0
    rw [if_neg (fun hx => (hX k hx).2.1 hk), h.keep k hk]
  · by_cases hx : X k
    · exact (hX k hx).2.2
    · have : (if X k then cP p else col k) ≠ 0 := hk
      rw [if_neg hx] at this
      exact h.lt k this
  · rw [hback (by decide) (Ne.symm (cP_ne p).2.1)]
    exact h.disk
  · rw [hback (cG_ne q).1 ((cG_ne q).2.2.2 p)]
    exact h.log q
  · by_cases hq : q = p
    · subst hq
      obtain ⟨lv, qs, h1, h2, h3, h4, h5⟩ := (h.part q).ex
      have hm : ∀ k, col k = cP q → (if X k then cP q else col k) = cP q := fun k hk => by
        by_cases hx : X k
        · rw [if_pos hx]
        · rw [if_neg hx, hk]
      refine ⟨hm _ (h.part q).mem, fun k hk => ?_, lv, qs, h1, h2, h3, fun g hg => hm g (h4 g hg), fun x hx => ⟨(h5 x hx).1, (h5 x hx).2.mono hm⟩⟩
      by_cases hx : X k
      · exact (hX k hx).2.2
      · have : (if X k then cP q else col k) = cP q := hk
        rw [if_neg hx] at this
        exact (h.part q).lt k this
    · rw [hback (cP_ne q).1 (cP_inj hq)]
      exact h.part q

/-- Behind a call of a part's log. -/
theorem OutAt.turn {fr : Fr} {w w' : World} {o d : Nat} {b l : Bool → Nat} {S : OSt} {col : Nat → Nat} (h : OutAt fr w o d b l S col) (p : Bool) {D' : Dk.St} {L' : Lg.St} (ht : Turned2 w w' (l p) d (fO p) D' L' (fun k => col k = 1) (fun k => col k = cG p)) :
    ∃ col', OutAt fr w' o d b l { S with D := D', L := upd S.L p L' } col' ∧ (∀ k, k < w.heap.size → col k = 0 → col' k = 0) ∧ (∀ k q, col k = cP q → col' k = cP q) ∧ Only (fun k => col k = 1 ∨ col k = cG p) w w' := by
  classical
  obtain ⟨F', G', ho, hd, hl, hne, hF, hG⟩ := ht
  have hs := ho.size
  obtain ⟨cn, hcn⟩ : ∃ f : Nat → Nat, f = fun k => if F' k then 1 else if G' k then cG p else if col k = 1 ∨ col k = cG p then 0 else col k := ⟨_, rfl⟩
  have hnew : ∀ {c k}, c ≠ 1 → c ≠ cG p → c ≠ 0 → col k = c → ¬ F' k ∧ ¬ G' k := fun {c k} h1 h2 h0 hk => by
    have hkl := h.lt k (by rw [hk]; exact h0)
    exact ⟨fun hf => (hF k hf).elim (fun e => h1 (hk.symm.trans e)) (fun e => by omega), fun hg => (hG k hg).elim (fun e => h2 (hk.symm.trans e)) (fun e => by omega)⟩
  have hsame : ∀ {c k}, c ≠ 1 → c ≠ cG p → c ≠ 0 → col k = c → cn k = c := fun {c k} h1 h2 h0 hk => by
    obtain ⟨a, b⟩ := hnew h1 h2 h0 hk
    rw [hcn]
    show (if F' k then 1 else if G' k then cG p else if col k = 1 ∨ col k = cG p then 0 else col k) = c
    rw [if_neg a, if_neg b, if_neg (by rw [hk]; exact fun e => e.elim h1 h2), hk]
  have hback : ∀ {c k}, c ≠ 1 → c ≠ cG p → c ≠ 0 → cn k = c → col k = c := fun {c k} h1 h2 h0 hk => by
    rw [hcn] at hk
    have hk : (if F' k then 1 else if G' k then cG p else if col k = 1 ∨ col k = cG p then 0 else col k) = c := hk
    by_cases a : F' k
    · rw [if_pos a] at hk; exact absurd hk.symm h1
    · rw [if_neg a] at hk
      by_cases b : G' k
      · rw [if_pos b] at hk; exact absurd hk.symm h2
      · rw [if_neg b] at hk
        by_cases e : col k = 1 ∨ col k = cG p
        · rw [if_pos e] at hk; exact absurd hk.symm h0
        · rw [if_neg e] at hk; exact hk
  have hset : ∀ {c}, c ≠ 1 → c ≠ cG p → c ≠ 0 → (fun k => cn k = c) = fun k => col k = c := fun h1 h2 h0 => by
    funext k
    exact propext ⟨hback h1 h2 h0, hsame h1 h2 h0⟩
  have hFs : (fun k => cn k = 1) = F' := by
    funext k
    apply propext
    rw [hcn]
    show (if F' k then 1 else if G' k then cG p else if col k = 1 ∨ col k = cG p then 0 else col k) = 1 ↔ _
    by_cases a : F' k
    · rw [if_pos a]; exact ⟨fun _ => a, fun _ => rfl⟩
    · rw [if_neg a]
      by_cases b : G' k
      · rw [if_pos b]; exact ⟨fun e => absurd e (cG_ne p).2.1, fun e => absurd e a⟩
      · rw [if_neg b]
        by_cases e : col k = 1 ∨ col k = cG p
        · rw [if_pos e]; exact ⟨fun e' => absurd e' (by decide), fun e => absurd e a⟩
        · rw [if_neg e]; exact ⟨fun e' => absurd (.inl e') e, fun e => absurd e a⟩
  have hGs : (fun k => cn k = cG p) = G' := by
    funext k
    apply propext
    rw [hcn]
    show (if F' k then 1 else if G' k then cG p else if col k = 1 ∨ col k = cG p then 0 else col k) = cG p ↔ _
    by_cases a : F' k
    · rw [if_pos a]; exact ⟨fun e => absurd e.symm (cG_ne p).2.1, fun e => absurd e (hne k a)⟩
    · rw [if_neg a]
      by_cases b : G' k
      · rw [if_pos b]; exact ⟨fun _ => b, fun _ => rfl⟩
      · rw [if_neg b]
        by_cases e : col k = 1 ∨ col k = cG p
        · rw [if_pos e]; exact ⟨fun e => absurd e.symm (cG_ne p).1, fun e => absurd e b⟩
        · rw [if_neg e]; exact ⟨fun e' => absurd (.inr e') e, fun e => absurd e b⟩
  have hfree : ∀ {c k}, c ≠ 1 → c ≠ cG p → col k = c → ¬ (col k = 1 ∨ col k = cG p) := fun h1 h2 hk e => e.elim (fun e => h1 (hk.symm.trans e)) (fun e => h2 (hk.symm.trans e))
  have hzero : ∀ k, k < w.heap.size → col k = 0 → cn k = 0 := fun k hk hc => by
    rw [hcn]
    show (if F' k then 1 else if G' k then cG p else if col k = 1 ∨ col k = cG p then 0 else col k) = 0
    rw [if_neg (fun hf => (hF k hf).elim (fun e => by have e : col k = 1 := e; rw [hc] at e; cases e) (fun e => by omega)), if_neg (fun hg => (hG k hg).elim (fun e => (cG_ne p).1 (e.symm.trans hc)) (fun e => by omega))]
    split
    · rfl
    · exact hc
  have h6p : (6 : Nat) ≠ cG p := Ne.symm (cG_ne p).2.2.1
  refine ⟨cn, ⟨h.old.only ho (fun i hi hK => ?_), fun k hk => ?_, fun k hk => ?_, ?_, fun q => ?_, fun q => ?_, ?_, hsame (by decide) h6p (by decide) h.co⟩, hzero, fun k q hc => hsame (cP_ne q).2.1 ((cP_ne q).2.2.2 p) (cP_ne q).1 hc, ho⟩
  · have := h.keep i hK
    rcases hi with e | e
    · have e : col i = 1 := e
      rw [this] at e; cases e
    · exact (cG_ne p).1 (e.symm.trans this)
  · exact hzero k (Nat.lt_of_lt_of_le (fr.lt k hk) h.old.size) (h.keep k hk)
  · by_cases a : F' k
    · exact hd.lt k a
    · by_cases b : G' k
      · exact hl.lt k b
      · have hk' : cn k ≠ 0 := hk
        rw [hcn] at hk'
        have hk' : (if F' k then 1 else if G' k then cG p else if col k = 1 ∨ col k = cG p then 0 else col k) ≠ 0 := hk'
        rw [if_neg a, if_neg b] at hk'
        by_cases e : col k = 1 ∨ col k = cG p
        · rw [if_pos e] at hk'; exact absurd rfl hk'
        · rw [if_neg e] at hk'
          exact Nat.lt_of_lt_of_le (h.lt k hk') hs
  · rw [hFs]; exact hd
  · by_cases hq : q = p
    · subst hq
      show LogAt w' (l q) d (fO q) (upd S.L q L' q) _
      rw [upd_same, hGs]
      exact hl
    · show LogAt w' (l q) d (fO q) (upd S.L p L' q) _
      rw [upd_ne _ _ hq, hset (cG_ne q).2.1 (cG_inj hq) (cG_ne q).1]
      exact (h.log q).only ho (fun k hk => hfree (cG_ne q).2.1 (cG_inj hq) hk)
  · rw [hset (cP_ne q).2.1 ((cP_ne q).2.2.2 p) (cP_ne q).1]
    exact (h.part q).only ho (fun k hk => hfree (cP_ne q).2.1 ((cP_ne q).2.2.2 p) hk)
  · exact (ho.block o ((Array.getElem?_eq_some_iff.1 h.cell).1) (hfree (by decide) h6p h.co)).trans h.cell

/-- Behind a change of the disk alone. -/
theorem OutAt.diskOnly {fr : Fr} {w w' : World} {o d : Nat} {b l : Bool → Nat} {S : OSt} {col : Nat → Nat} (h : OutAt fr w o d b l S col) {D' : Dk.St} (ho : Only (fun k => col k = 1) w w') (hd : DiskAt w' d D' (fun k => col k = 1)) : OutAt fr w' o d b l { S with D := D' } col := by
  have hs := ho.size
  have hne : ∀ {c k}, c ≠ 1 → col k = c → ¬ col k = 1 := fun hc hk e => hc (hk.symm.trans e)
  exact ⟨h.old.only ho (fun i hi hK => by have hi : col i = 1 := hi; rw [h.keep i hK] at hi; cases hi), h.keep, fun k hk => Nat.lt_of_lt_of_le (h.lt k hk) hs, hd, fun p => (h.log p).only ho (fun k hk => hne (cG_ne p).2.1 hk), fun p => (h.part p).only ho (fun k hk => hne (cP_ne p).2.1 hk), (ho.block o ((Array.getElem?_eq_some_iff.1 h.cell).1) (hne (by decide) h.co)).trans h.cell, h.co⟩

/-- Behind a change of one part's row: its new blocks become the part's. -/
theorem OutAt.repart {fr : Fr} {w w' : World} {o d : Nat} {b l : Bool → Nat} {S : OSt} {col : Nat → Nat} (h : OutAt fr w o d b l S col) (p : Bool) {rs : List ORec} {P' : Nat → Prop} (ho : Only (fun k => col k = cP p) w w') (hp : PartAt w' (b p) (l p) rs P') (hP : ∀ k, P' k → col k = cP p ∨ w.heap.size ≤ k) :
    ∃ cn, OutAt fr w' o d b l { S with r := upd S.r p rs } cn := by
  classical
  have hs := ho.size
  have hne : ∀ {c k}, c ≠ cP p → col k = c → ¬ col k = cP p := fun hc hk e => hc (hk.symm.trans e)
  have hPk : ∀ {c k}, c ≠ 0 → c ≠ cP p → col k = c → ¬ P' k := fun {c k} h0 hc hk hx => (hP k hx).elim (hne hc hk) (fun e => by have := h.lt k (by rw [hk]; exact h0); omega)
  obtain ⟨cn, hcn⟩ : ∃ f : Nat → Nat, f = fun k => if P' k then cP p else if col k = cP p then 0 else col k := ⟨_, rfl⟩
  have hset : ∀ {c}, c ≠ 0 → c ≠ cP p → (fun k => cn k = c) = fun k => col k = c := fun {c} h0 hc => by
    funext k
    apply propext
    rw [hcn]
    show (if P' k then cP p else if col k = cP p then 0 else col k) = c ↔ _
    by_cases a : P' k
    · rw [if_pos a]; exact ⟨fun e => absurd e.symm hc, fun e => absurd a (hPk h0 hc e)⟩
    · rw [if_neg a]
      by_cases e : col k = cP p
      · rw [if_pos e]; exact ⟨fun e' => absurd e'.symm h0, fun e' => absurd (e'.symm.trans e) hc⟩
      · rw [if_neg e]
  have hPs : (fun k => cn k = cP p) = P' := by
    funext k
    apply propext
    rw [hcn]
    show (if P' k then cP p else if col k = cP p then 0 else col k) = cP p ↔ _
    by_cases a : P' k
    · rw [if_pos a]; exact ⟨fun _ => a, fun _ => rfl⟩
    · rw [if_neg a]
      by_cases e : col k = cP p
      · rw [if_pos e]; exact ⟨fun e' => absurd e'.symm (cP_ne p).1, fun e' => absurd e' a⟩
      · rw [if_neg e]; exact ⟨fun e' => absurd e' e, fun e' => absurd e' a⟩
  refine ⟨cn, h.old.only ho (fun i hi hK => (cP_ne p).1 (hi.symm.trans (h.keep i hK))), fun k hk => ?_, fun k hk => ?_, ?_, fun q => ?_, fun q => ?_, ?_, ?_⟩
  · have hk0 := h.keep k hk
    have hkl := Nat.lt_of_lt_of_le (fr.lt k hk) h.old.size
    rw [hcn]
    show (if P' k then cP p else if col k = cP p then 0 else col k) = 0
    rw [if_neg (fun hx => (hP k hx).elim (fun e => (cP_ne p).1 (e.symm.trans hk0)) (fun e => by omega))]
    split
    · rfl
    · exact hk0
  · by_cases a : P' k
    · exact hp.lt k a
    · have hk' : cn k ≠ 0 := hk
      rw [hcn] at hk'
      have hk' : (if P' k then cP p else if col k = cP p then 0 else col k) ≠ 0 := hk'
      rw [if_neg a] at hk'
      by_cases e : col k = cP p
      · rw [if_pos e] at hk'; exact absurd rfl hk'
      · rw [if_neg e] at hk'
        exact Nat.lt_of_lt_of_le (h.lt k hk') hs
  · rw [hset (by decide) (Ne.symm (cP_ne p).2.1)]
    exact h.disk.only ho (fun k hk => hne (Ne.symm (cP_ne p).2.1) hk)
  · rw [hset (cG_ne q).1 ((cG_ne q).2.2.2 p)]
    exact (h.log q).only ho (fun k hk => hne ((cG_ne q).2.2.2 p) hk)
  · by_cases hq : q = p
    · subst hq
      show PartAt w' (b q) (l q) (upd S.r q rs q) _
      rw [upd_same, hPs]
      exact hp
    · show PartAt w' (b q) (l q) (upd S.r p rs q) _
      rw [upd_ne _ _ hq, hset (cP_ne q).1 (cP_inj hq)]
      exact (h.part q).only ho (fun k hk => hne (cP_inj hq) hk)
  · exact (ho.block o ((Array.getElem?_eq_some_iff.1 h.cell).1) (hne (Ne.symm (cP_ne p).2.2.1) h.co)).trans h.cell
  · have := congrFun (hset (c := 6) (by decide) (Ne.symm (cP_ne p).2.2.1)) o
    show cn o = 6
    exact (eq_iff_iff.1 this).2 h.co

theorem OutLive.below {fr : Fr} {w w' : World} {o d : Nat} {S : OSt} (h : OutLive fr w o d S) (hb : Below w.heap.size w w') : OutLive fr w' o d S := by
  obtain ⟨b, l, col, h⟩ := h
  exact ⟨b, l, col, h.below hb⟩
theorem OutLive.old {fr : Fr} {w : World} {o d : Nat} {S : OSt} (h : OutLive fr w o d S) : Since fr w := by
  obtain ⟨b, l, col, h⟩ := h
  exact h.old

/-- An output, and blocks that are none of its. -/
def OutK (fr : Fr) (w : World) (o d : Nat) (S : OSt) (K : Nat → Prop) : Prop := ∃ b l col, OutAt fr w o d b l S col ∧ ∀ k, K k → col k = 0 ∧ k < w.heap.size
theorem OutK.live {fr : Fr} {w : World} {o d : Nat} {S : OSt} {K : Nat → Prop} (h : OutK fr w o d S K) : OutLive fr w o d S := by
  obtain ⟨b, l, col, h, -⟩ := h
  exact ⟨b, l, col, h⟩
theorem OutK.old {fr : Fr} {w : World} {o d : Nat} {S : OSt} {K : Nat → Prop} (h : OutK fr w o d S K) : Since fr w := h.live.old
theorem OutLive.keep {fr : Fr} {w : World} {o d : Nat} {S : OSt} (h : OutLive fr w o d S) : OutK fr w o d S (fun _ => False) := by
  obtain ⟨b, l, col, h⟩ := h
  exact ⟨b, l, col, h, fun _ h => h.elim⟩
theorem OutK.less {fr : Fr} {w : World} {o d : Nat} {S : OSt} {K K' : Nat → Prop} (h : OutK fr w o d S K) (hk : ∀ k, K' k → K k) : OutK fr w o d S K' := by
  obtain ⟨b, l, col, h, h2⟩ := h
  exact ⟨b, l, col, h, fun k e => h2 k (hk k e)⟩
theorem OutK.only {fr : Fr} {w w' : World} {o d : Nat} {S : OSt} {K X : Nat → Prop} (h : OutK fr w o d S K) (ho : Only X w w') (hX : ∀ k, X k → K k ∧ ¬ fr.K k) : OutK fr w' o d S (fun k => K k ∨ (w.heap.size ≤ k ∧ k < w'.heap.size)) := by
  obtain ⟨b, l, col, h, h2⟩ := h
  have hs := ho.size
  refine ⟨b, l, col, h.only ho (fun k hk => ⟨(h2 k (hX k hk).1).1, (hX k hk).2⟩), fun k hk => ?_⟩
  rcases hk with hk | ⟨hk, hk'⟩
  · obtain ⟨a, b⟩ := h2 k hk
    exact ⟨a, by omega⟩
  · refine ⟨?_, hk'⟩
    by_cases e : col k = 0
    · exact e
    · have := h.lt k e
      omega
theorem OutK.grow {fr : Fr} {w w' : World} {o d : Nat} {S : OSt} {K : Nat → Prop} (h : OutK fr w o d S K) (hb : Below w.heap.size w w') : OutK fr w' o d S (fun k => K k ∨ (w.heap.size ≤ k ∧ k < w'.heap.size)) :=
  h.only (X := fun _ => False) (Only.below hb) (fun _ h => h.elim)
/-- A frame that has these blocks too, and the way back out of it. -/
theorem OutLive.back {fr : Fr} {w w' : World} {hs : Since fr w} {K : Nat → Prop} {hK : ∀ k, K k → k < w.heap.size} {o d : Nat} {S : OSt} (h : OutLive (fr.more hs K hK) w' o d S) :
    OutK fr w' o d S K ∧ (∀ k, K k → w'.heap[k]? = w.heap[k]?) ∧ w.heap.size ≤ w'.heap.size := by
  obtain ⟨b, l, col, h⟩ := h
  obtain ⟨h1, h2⟩ := Since.more h.old
  have hsz : w.heap.size ≤ w'.heap.size := h.old.size
  exact ⟨⟨b, l, col, ⟨h1, fun k hk => h.keep k (.inl hk), h.lt, h.disk, h.log, h.part, h.cell, h.co⟩, fun k hk => ⟨h.keep k (.inr hk), Nat.lt_of_lt_of_le (hK k hk) hsz⟩⟩, h2, hsz⟩
theorem OutK.call {fr : Fr} {w : World} {o d : Nat} {S : OSt} {K : Nat → Prop} (h : OutK fr w o d S K) :
    ∃ f : Fr, OutLive f w o d S ∧ ∀ w' o' S', OutLive f w' o' d S' → OutK fr w' o' d S' K ∧ (∀ k, K k → w'.heap[k]? = w.heap[k]?) ∧ w.heap.size ≤ w'.heap.size := by
  obtain ⟨b, l, col, h, h2⟩ := h
  exact ⟨fr.more h.old K (fun k hk => (h2 k hk).2), ⟨b, l, col, Since.refl _ _ _, fun k hk => hk.elim (h.keep k) (fun e => (h2 k e).1), h.lt, h.disk, h.log, h.part, h.cell, h.co⟩, fun w' o' S' h' => h'.back⟩

/-- Behind the append of a record, and the store of the row. -/
theorem part_push {w W w3 : World} {b l g cap : Nat} {lv v : Value} {rs : List ORec} {qs : List (ORec × Value)} {P : Nat → Prop} {r : ORec} (hP : P b) (hlt : ∀ k, P k → k < w.heap.size) (hc : w.heap[b]? = some (.cells #[ptr l 0, lv] 140)) (hr : RowAt w 142 3 lv rs.length (oCells qs)) (hq : qs.map (·.1) = rs) (hlo : ∀ g, lv.ownBlock = some g → P g)
    (hqs : ∀ q ∈ qs, Reads w q.2 q.1.l.length (outCells q.1.l) ∧ OwnsOut w q.2 P) (hv : Reads w v r.l.length (outCells r.l)) (hvo : OwnsOut w v P)
    (hW : Below w.heap.size w W) (hgr : W.grownBy w3 lv.ownBlock) (hown : w3.ownsRow 0 142 3 (.slice (some ⟨g, 0, none⟩) (rs.length + 1) cap) (rs.length + 1) (oCells qs ++ [.int .u8 (r.kind.toNat : Int), .int .i64 r.n, v]))
    (hat : lv.ownBlock = some g ∨ W.heap.size ≤ g) (hglt : g < w3.heap.size) :
    PartAt (w3.setCell ⟨b, 1, none⟩ (.slice (some ⟨g, 0, none⟩) (rs.length + 1) cap)) b l (rs ++ [r]) (fun k => P k ∨ k = g) ∧ Only P w (w3.setCell ⟨b, 1, none⟩ (.slice (some ⟨g, 0, none⟩) (rs.length + 1) cap)) := by
  have hlne : lv.ownBlock ≠ some b := fun e => by
    obtain ⟨cur, hcur⟩ := hr.type b e
    exact far hcur hc (by decide) rfl
  have hWs := hW.size
  have hgs := hgr.size
  have hbl := hlt b hP
  have hkeep : ∀ k, k < w.heap.size → some k ≠ lv.ownBlock → w3.heap[k]? = w.heap[k]? := fun k hk hne => (hgr.block k (by omega) hne).trans (hW.block k hk)
  have hc3 : w3.heap[b]? = some (.cells #[ptr l 0, lv] 140) := (hkeep b hbl (Ne.symm hlne)).trans hc
  have hgb : g ≠ b := by
    rcases hat with h | h
    · intro e; rw [e] at h; exact hlne h
    · omega
  have hset : ∀ k, k ≠ b → (w3.setCell ⟨b, 1, none⟩ (.slice (some ⟨g, 0, none⟩) (rs.length + 1) cap)).heap[k]? = w3.heap[k]? := fun k hk => Below.heap_setCell _ _ _ _ (by exact hk)
  have hout : ∀ k, P k → (∃ cur, w.heap[k]? = some (.cells cur 84)) → (w3.setCell ⟨b, 1, none⟩ (.slice (some ⟨g, 0, none⟩) (rs.length + 1) cap)).heap[k]? = w.heap[k]? := fun k hk ⟨cur, hcur⟩ => by
    have hkb : k ≠ b := fun e => by
      subst e
      exact far hcur hc (by decide) rfl
    have hkl : some k ≠ lv.ownBlock := fun e => by
      obtain ⟨cur2, hcur2⟩ := hr.type k e.symm
      exact far hcur2 hcur (by decide) rfl
    rw [hset k hkb, hkeep k (hlt k hk) hkl]
  have hrd : ∀ (x : Value) (m : Nat) (cs : List Value), Reads w x m cs → OwnsOut w x P → Reads (w3.setCell ⟨b, 1, none⟩ (.slice (some ⟨g, 0, none⟩) (rs.length + 1) cap)) x m cs ∧ OwnsOut (w3.setCell ⟨b, 1, none⟩ (.slice (some ⟨g, 0, none⟩) (rs.length + 1) cap)) x (fun k => P k ∨ k = g) := fun x m cs h1 h2 => by
    refine ⟨h1.ownKept (by simp only [World.size_setCell]; omega) (fun k hk => hout k (h2 k hk).1 (h2 k hk).2), fun k hk => ⟨.inl (h2 k hk).1, ?_⟩⟩
    obtain ⟨cur, hcur⟩ := (h2 k hk).2
    exact ⟨cur, (hout k (h2 k hk).1 ⟨cur, hcur⟩).trans hcur⟩
  refine ⟨⟨.inl hP, fun k hk => ?_, .slice (some ⟨g, 0, none⟩) (rs.length + 1) cap, qs ++ [(r, v)], ?_, ?_, by rw [List.map_append, hq]; rfl, fun k hk => ?_, fun q hq' => ?_⟩, ⟨hgr.os.trans hW.os, hgr.tape.trans hW.tape, hgr.output.trans hW.output, by simp only [World.size_setCell]; omega, fun k hk hs => ?_⟩⟩
  · simp only [World.size_setCell]
    rcases hk with hk | hk
    · have := hlt k hk; omega
    · omega
  · rw [cells_set hc3]
    rfl
  · refine .inl ?_
    rw [List.length_append, oCells_snoc]
    refine own_kept hown (fun k hk => ?_)
    simp only [Value.ownBlock, Option.some.injEq] at hk
    subst hk
    exact hset _ hgb
  · simp only [Value.ownBlock, Option.some.injEq] at hk
    exact .inr hk.symm
  · rcases List.mem_append.1 hq' with hq' | hq'
    · exact hrd _ _ _ (hqs q hq').1 (hqs q hq').2
    · rw [List.mem_singleton.1 hq']
      exact hrd _ _ _ hv hvo
  · rw [hset k (fun e => hs (e ▸ hP)), hkeep k hk (fun e => hs (hlo k e.symm))]

/-- A part's log: Put, Sync, Cut. -/
theorem oat_put {fr : Fr} {w : World} {o d : Nat} {b l : Bool → Nat} {S : OSt} {col : Nat → Nat} (h : OutAt fr w o d b l S col) (p : Bool) (r : Lg.Rec) (hs : r.text.size ≤ 140737488351232) (hm : S.D.loose.length ≤ 1000000000) (hbig : (Lg.bytesOf (S.L p).rs).length ≤ 900000000) :
    Calls Try.prog 48 #[ptr (l p) 0, .int .u8 (r.kind.toNat : Int), .string r.text] w fun e w' => e = .returned (.int .i64 (S.lput p r).1) ∧ ∃ col', OutAt fr w' o d b l (S.lput p r).2 col' ∧ (∀ k, k < w.heap.size → col k = 0 → col' k = 0) ∧ (∀ k q, col k = cP q → col' k = cP q) ∧ Only (fun k => col k = 1 ∨ col k = cG p) w w' :=
  (logput_any w (l p) d (fO p) S.D (S.L p) _ _ h.disk (h.log p) (fun _ e e' => (cG_ne p).2.1 (e'.symm.trans e)) r hs hm hbig).mono fun _ _ ⟨h1, h2⟩ => ⟨h1, h.turn p h2⟩
theorem oat_sync {fr : Fr} {w : World} {o d : Nat} {b l : Bool → Nat} {S : OSt} {col : Nat → Nat} (h : OutAt fr w o d b l S col) (p : Bool) :
    Calls Try.prog 50 #[ptr (l p) 0] w fun e w' => e = .returned (.int .i64 (S.lsync p).1) ∧ ∃ col', OutAt fr w' o d b l (S.lsync p).2 col' ∧ (∀ k, k < w.heap.size → col k = 0 → col' k = 0) ∧ (∀ k q, col k = cP q → col' k = cP q) ∧ Only (fun k => col k = 1 ∨ col k = cG p) w w' :=
  (logsync_any w (l p) d (fO p) S.D (S.L p) _ _ h.disk (h.log p) (fun _ e e' => (cG_ne p).2.1 (e'.symm.trans e))).mono fun _ _ ⟨h1, h2⟩ => ⟨h1, h.turn p h2⟩
theorem oat_cut {fr : Fr} {w : World} {o d : Nat} {b l : Bool → Nat} {S : OSt} {col : Nat → Nat} (h : OutAt fr w o d b l S col) (p : Bool) (k : Nat) (hm : S.D.loose.length ≤ 1000000000) :
    Calls Try.prog 81 #[ptr (l p) 0, .int .i64 (k : Int)] w fun e w' => e = .returned (.int .i64 (S.lcut p k).1) ∧ ∃ col', OutAt fr w' o d b l (S.lcut p k).2 col' ∧ (∀ k, k < w.heap.size → col k = 0 → col' k = 0) ∧ (∀ k q, col k = cP q → col' k = cP q) ∧ Only (fun k => col k = 1 ∨ col k = cG p) w w' :=
  (logcut_any w (l p) d (fO p) S.D (S.L p) _ _ h.disk (h.log p) (fun _ e e' => (cG_ne p).2.1 (e'.symm.trans e)) k hm).mono fun _ _ ⟨h1, h2⟩ => ⟨h1, h.turn p h2⟩
theorem oat_len {fr : Fr} {w : World} {o d : Nat} {b l : Bool → Nat} {S : OSt} {col : Nat → Nat} (h : OutAt fr w o d b l S col) (p : Bool) :
    Calls Try.prog 45 #[ptr (l p) 0] w fun e w' => e = .returned (.int .i64 ((S.L p).rs.length : Int)) ∧ w = w' := loglen_any w (l p) d (fO p) (S.L p) _ (h.log p)

end Go.Proofs.Ytllecjhfbojgcaa
