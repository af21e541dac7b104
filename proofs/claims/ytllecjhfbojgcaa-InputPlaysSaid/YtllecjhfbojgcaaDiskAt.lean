/-
  The disk in memory.
-/
import Derived.Test.YtllecjhfbojgcaaOnly
import Derived.Test.YtllecjhfbojgcaaDiskPlain
namespace Go.Proofs.Ytllecjhfbojgcaa
open Go.RowKit
set_option maxRecDepth 20000

def ptr (b o : Nat) : Value := .pointer (some ⟨b, o, none⟩)
/-- The closures of a change, made over boxes. -/
def partV (a b : Nat) : Value := .func (.func 90) #[] #[ptr a 0, ptr b 0]
def appV (p b : Nat) : Value := .func (.func 92) #[] #[ptr p 0, ptr b 0]
def cutV (a b : Nat) : Value := .func (.func 94) #[] #[ptr a 0, ptr b 0]
def movV (a b : Nat) : Value := .func (.func 95) #[] #[ptr a 0, ptr b 0]

/-- A change as it lies in memory; its boxes are of F. -/
inductive ChAt (w : World) (F : Nat → Prop) : Dk.Ch → Value → Value → Prop where
  | app (f : Nat) (s : ByteArray) (a b p : Nat) (ha : w.heap[a]? = some (.cells #[.int .i64 (f : Int)] 3)) (hb : w.heap[b]? = some (.cells #[.string s] 9)) (hp : w.heap[p]? = some (.cells #[partV a b] 111)) (fa : F a) (fb : F b) (fp : F p) :
    ChAt w F (.app f s) (appV p b) (partV a b)
  | cut (f n : Nat) (a b : Nat) (ha : w.heap[a]? = some (.cells #[.int .i64 (f : Int)] 3)) (hb : w.heap[b]? = some (.cells #[.int .i64 (n : Int)] 3)) (fa : F a) (fb : F b) : ChAt w F (.cut f n) (cutV a b) .nilFunc
  | mov (f g : Nat) (a b : Nat) (ha : w.heap[a]? = some (.cells #[.int .i64 (f : Int)] 3)) (hb : w.heap[b]? = some (.cells #[.int .i64 (g : Int)] 3)) (fa : F a) (fb : F b) : ChAt w F (.mov f g) (movV a b) .nilFunc

theorem ChAt.kept {w w' : World} {F F' : Nat → Prop} {c : Dk.Ch} {x y : Value} (h : ChAt w F c x y) (hk : ∀ k, F k → w'.heap[k]? = w.heap[k]?) (hF : ∀ k, F k → F' k) : ChAt w' F' c x y := by
  cases h with
  | app f s a b p ha hb hp fa fb fp => exact .app f s a b p ((hk _ fa).trans ha) ((hk _ fb).trans hb) ((hk _ fp).trans hp) (hF _ fa) (hF _ fb) (hF _ fp)
  | cut f n a b ha hb fa fb => exact .cut f n a b ((hk _ fa).trans ha) ((hk _ fb).trans hb) (hF _ fa) (hF _ fb)
  | mov f g a b ha hb fa fb => exact .mov f g a b ((hk _ fa).trans ha) ((hk _ fb).trans hb) (hF _ fa) (hF _ fb)

def pairs (vs : List (Value × Value)) : List Value := vs.flatMap fun p => [p.1, p.2]
theorem pairs_len (vs : List (Value × Value)) : (pairs vs).length = vs.length * 2 := by
  induction vs with
  | nil => rfl
  | cons x l ih => simp [pairs] at ih ⊢; omega
theorem pairs_snoc (vs : List (Value × Value)) (p : Value × Value) : pairs (vs ++ [p]) = pairs vs ++ [p.1, p.2] := by simp [pairs]
theorem pairs_at (vs : List (Value × Value)) (i : Nat) (p : Value × Value) (h : vs[i]? = some p) : (pairs vs)[i * 2]? = some p.1 ∧ (pairs vs)[i * 2 + 1]? = some p.2 := by
  induction vs generalizing i with
  | nil => simp at h
  | cons x l ih =>
    cases i with
    | zero =>
      simp at h
      subst h
      exact ⟨rfl, rfl⟩
    | succ i =>
      obtain ⟨h1, h2⟩ := ih i (by simpa using h)
      refine ⟨?_, ?_⟩
      · show (x.1 :: x.2 :: pairs l)[(i + 1) * 2]? = _
        rw [show (i + 1) * 2 = i * 2 + 1 + 1 by omega]
        simpa using h1
      · show (x.1 :: x.2 :: pairs l)[(i + 1) * 2 + 1]? = _
        rw [show (i + 1) * 2 + 1 = i * 2 + 1 + 1 + 1 by omega]
        simpa using h2

def LooseAt (w : World) (F : Nat → Prop) (l : List Dk.Ch) (lv : Value) : Prop :=
  ∃ vs : List (Value × Value), w.ownsRow 0 113 2 lv l.length (pairs vs) ∧ (∀ g, lv.ownBlock = some g → F g) ∧ vs.length = l.length ∧ ∀ (i : Nat) (c : Dk.Ch), l[i]? = some c → ∃ p : Value × Value, vs[i]? = some p ∧ ChAt w F c p.1 p.2

theorem own_kept {w w' : World} {base : Nat} {e : TypeId} {size : Nat} {v : Value} {n : Nat} {xs : List Value} (h : w.ownsRow base e size v n xs) (hk : ∀ g, v.ownBlock = some g → w'.heap[g]? = w.heap[g]?) : w'.ownsRow base e size v n xs := by
  obtain ⟨h1, h2⟩ := h
  refine ⟨h1, ?_⟩
  rcases h2 with h2 | ⟨g, cap, cur, hv, hg, hc, h3⟩
  · exact .inl h2
  · refine .inr ⟨g, cap, cur, hv, hg, ?_, h3⟩
    rw [hk g (by rw [hv]; rfl)]; exact hc

theorem LooseAt.kept {w w' : World} {F F' : Nat → Prop} {l : List Dk.Ch} {lv : Value} (h : LooseAt w F l lv) (hk : ∀ k, F k → w'.heap[k]? = w.heap[k]?) (hF : ∀ k, F k → F' k) : LooseAt w' F' l lv := by
  obtain ⟨vs, h1, h2, h3, h4⟩ := h
  refine ⟨vs, own_kept h1 (fun g hg => hk g (h2 g hg)), fun g hg => hF g (h2 g hg), h3, fun i c hi => ?_⟩
  obtain ⟨p, hp, hc⟩ := h4 i c hi
  exact ⟨p, hp, hc.kept hk hF⟩
theorem LooseAt.nil (w : World) (F : Nat → Prop) : LooseAt w F [] (.slice none 0 0) :=
  ⟨[], ⟨rfl, .inl ⟨rfl, rfl⟩⟩, fun g hg => by simp [Value.ownBlock] at hg, rfl, fun i c hi => by simp at hi⟩

def diskL (S : Dk.St) (lv : Value) : List Value := .int .i64 (S.room : Int) :: (S.now.map .string ++ (S.sure.map .string ++ [lv, .bool S.off, .int .i64 S.left]))
def diskCells (S : Dk.St) (lv : Value) : Array Value := (diskL S lv).toArray

structure DiskAt (w : World) (d : Nat) (S : Dk.St) (F : Nat → Prop) : Prop where
  ok : Dk.Ok S
  mem : F d
  lt : ∀ k, F k → k < w.heap.size
  cells : ∃ lv, w.heap[d]? = some (.cells (diskCells S lv) 92) ∧ LooseAt w F S.loose lv

theorem DiskAt.kept {w w' : World} {d : Nat} {S : Dk.St} {F : Nat → Prop} (h : DiskAt w d S F) (hk : ∀ k, F k → w'.heap[k]? = w.heap[k]?) (hs : w.heap.size ≤ w'.heap.size) : DiskAt w' d S F := by
  obtain ⟨lv, h1, h2⟩ := h.cells
  exact ⟨h.ok, h.mem, fun k hk' => Nat.lt_of_lt_of_le (h.lt k hk') hs, lv, (hk d h.mem).trans h1, h2.kept hk (fun _ h => h)⟩
theorem DiskAt.below {w w' : World} {d : Nat} {S : Dk.St} {F : Nat → Prop} (h : DiskAt w d S F) (hb : Below w.heap.size w w') : DiskAt w' d S F := h.kept (fun k hk => hb.block k (h.lt k hk)) hb.size
theorem DiskAt.only {w w' : World} {d : Nat} {S : Dk.St} {F G : Nat → Prop} (h : DiskAt w d S F) (hb : Only G w w') (hd : ∀ k, F k → ¬ G k) : DiskAt w' d S F := h.kept (fun k hk => hb.block k (h.lt k hk) (hd k hk)) hb.size

/-- What a call leaves: the disk, in its own blocks and new ones. -/
def Turned (w w' : World) (d : Nat) (S' : Dk.St) (F : Nat → Prop) : Prop := ∃ F', Only F w w' ∧ DiskAt w' d S' F' ∧ ∀ k, F' k → F k ∨ w.heap.size ≤ k
theorem Turned.self {w : World} {d : Nat} {S : Dk.St} {F : Nat → Prop} (h : DiskAt w d S F) : Turned w w d S F := ⟨F, Only.refl _ _, h, fun _ hk => .inl hk⟩
theorem Turned.below {w w' : World} {d : Nat} {S : Dk.St} {F : Nat → Prop} (h : DiskAt w d S F) (hb : Below w.heap.size w w') : Turned w w' d S F := ⟨F, Only.below hb, h.below hb, fun _ hk => .inl hk⟩

/-- A disk that was made since w0, and whose blocks are all new since. -/
def Live (w0 w : World) (d : Nat) (S : Dk.St) : Prop := ∃ F, DiskAt w d S F ∧ (∀ k, F k → w0.heap.size ≤ k) ∧ Below w0.heap.size w0 w
theorem Live.ok {w0 w : World} {d : Nat} {S : Dk.St} (h : Live w0 w d S) : Dk.Ok S := by obtain ⟨F, h, _⟩ := h; exact h.ok
theorem Live.bel {w0 w : World} {d : Nat} {S : Dk.St} (h : Live w0 w d S) : Below w0.heap.size w0 w := by obtain ⟨F, _, _, h⟩ := h; exact h
theorem Live.below {w0 w w' : World} {d : Nat} {S : Dk.St} (h : Live w0 w d S) (hb : Below w.heap.size w w') : Live w0 w' d S := by
  obtain ⟨F, h1, h2, h3⟩ := h
  exact ⟨F, h1.below hb, h2, bel_trans h3 hb⟩
theorem Live.turned {w0 w w' : World} {d : Nat} {S' : Dk.St} {F : Nat → Prop} (h2 : ∀ k, F k → w0.heap.size ≤ k) (h3 : Below w0.heap.size w0 w) (ht : Turned w w' d S' F) : Live w0 w' d S' := by
  obtain ⟨F', h1, h4, h5⟩ := ht
  have hs := h3.size
  exact ⟨F', h4, fun k hk => by rcases h5 k hk with h | h; exact h2 k h; omega, h3.trans (h1.toBelow hs h2)⟩

/-! The cells. -/
theorem diskL_len {S : Dk.St} (h : Dk.Ok S) (lv : Value) : (diskL S lv).length = 36 := by simp [diskL, h.nowL, h.sureL]
theorem diskL_room (S : Dk.St) (lv : Value) : (diskL S lv)[0]? = some (.int .i64 (S.room : Int)) := rfl
theorem diskL_now {S : Dk.St} (h : Dk.Ok S) (lv : Value) (i : Nat) (hi : i < 16) : (diskL S lv)[1 + i]? = some (.string (Dk.at' S.now i)) := by
  rw [Nat.add_comm]
  simp only [diskL, List.getElem?_cons_succ]
  rw [List.getElem?_append_left (by simp [h.nowL]; omega), List.getElem?_map, Dk.at_get _ _ (by rw [h.nowL]; omega)]
  rfl
theorem diskL_sure {S : Dk.St} (h : Dk.Ok S) (lv : Value) (i : Nat) (hi : i < 16) : (diskL S lv)[17 + i]? = some (.string (Dk.at' S.sure i)) := by
  rw [show 17 + i = (16 + i) + 1 by omega]
  simp only [diskL, List.getElem?_cons_succ]
  rw [List.getElem?_append_right (by simp [h.nowL]), List.getElem?_append_left (by simp [h.nowL, h.sureL]; omega), List.getElem?_map, Dk.at_get _ _ (by simp [h.nowL, h.sureL]; omega)]
  simp [h.nowL]
theorem diskL_rest {S : Dk.St} (h : Dk.Ok S) (lv : Value) (i : Nat) : (diskL S lv)[33 + i]? = [lv, .bool S.off, .int .i64 S.left][i]? := by
  rw [show 33 + i = (32 + i) + 1 by omega]
  simp only [diskL, List.getElem?_cons_succ]
  rw [List.getElem?_append_right (by simp [h.nowL]; omega), List.getElem?_append_right (by simp [h.nowL, h.sureL]; omega)]
  simp [h.nowL, h.sureL, show 32 + i - 16 - 16 = i by omega]

theorem diskL_set_now {S : Dk.St} (h : Dk.Ok S) (lv : Value) (i : Nat) (hi : i < 16) (v : ByteArray) : (diskL S lv).set (1 + i) (.string v) = diskL { S with now := S.now.set i v } lv := by
  rw [Nat.add_comm]
  simp only [diskL, List.set_cons_succ]
  rw [List.set_append_left _ _ (by simp [h.nowL]; omega), List.map_set]
theorem diskL_set_sure {S : Dk.St} (hn : S.now.length = 16) (hs : S.sure.length = 16) (lv : Value) (i : Nat) (hi : i < 16) (v : ByteArray) : (diskL S lv).set (17 + i) (.string v) = diskL { S with sure := S.sure.set i v } lv := by
  rw [show 17 + i = (16 + i) + 1 by omega]
  simp only [diskL, List.set_cons_succ]
  rw [List.set_append_right _ _ (by simp [hn]), List.set_append_left _ _ (by simp [hn, hs]; omega), List.map_set]
  simp [hn]
theorem diskL_set_rest {S : Dk.St} (hn : S.now.length = 16) (hs : S.sure.length = 16) (lv : Value) :
    (∀ v, (diskL S lv).set 33 v = diskL S v) ∧ (∀ b, (diskL S lv).set 34 (.bool b) = diskL { S with off := b } lv) ∧ (∀ n, (diskL S lv).set 35 (.int .i64 n) = diskL { S with left := n } lv) := by
  refine ⟨fun v => ?_, fun v => ?_, fun v => ?_⟩
  all_goals
    simp only [diskL, List.set_cons_succ]
    rw [List.set_append_right _ _ (by simp [hn]), List.set_append_right _ _ (by simp [hn, hs])]
    simp [hn, hs]

end Go.Proofs.Ytllecjhfbojgcaa
