/-
  Words and small lemmas for all walks of this seat.
-/
import Derived.Test.YtllecjhfbojgcaaProg
import Derived.WalkKit
import Derived.WalkSpells
import Derived.WalkLawsBesides
import Derived.Lib.Hide
import Derived.OpenShut
import Derived.Below
import Derived.Deep.QuietTactic
import Derived.BigQuiet
namespace Go.Proofs.Ytllecjhfbojgcaa
open Go.RowKit
set_option maxRecDepth 20000

theorem ret_int {k : IntKind} {a b : Int} (h : a = b) : Ending.returned (.int k a) = .returned (.int k b) := by rw [h]
theorem ret_bool {a b : Bool} (h : a = b) : Ending.returned (.bool a) = .returned (.bool b) := by rw [h]

theorem take_snoc_of {α : Type} (l : List α) (k : Nat) (s : α) (h : l[k]? = some s) : l.take (k + 1) = l.take k ++ [s] := by
  rw [List.take_add_one, h]; rfl

theorem addr_add (b off j : Nat) : ((⟨b, off, none⟩ : Addr).add j) = ⟨b, off + j, none⟩ := by
  simp only [Addr.add]
  split <;> simp_all

theorem cell_row (w : World) (c : Array Value) (T : TypeId) (i : Nat) (v : Value) (h : c[i]? = some v) : (w.alloc (.cells c T)).cell? ⟨w.heap.size, i, none⟩ = some v := by
  rw [World.cell?_alloc_at c T _ i rfl, h]

/-- 'v' is a slice of n elements whose cells, one behind the other, hold cs. -/
def Reads (w : World) (v : Value) (n : Nat) (cs : List Value) : Prop :=
  (∃ a cap, v = .slice a 0 cap ∧ n = 0 ∧ cs = []) ∨
    ∃ b off cap, v = .slice (some ⟨b, off, none⟩) n cap ∧ n ≤ cap ∧ cap ≤ maxLen ∧ b < w.heap.size ∧ ∀ i c, cs[i]? = some c → w.cell? ⟨b, off + i, none⟩ = some c

theorem Reads.nil (w : World) : Reads w (.slice none 0 0) 0 [] := .inl ⟨_, _, rfl, rfl, rfl⟩

theorem Reads.kept {w w' : World} {v : Value} {n : Nat} {cs : List Value} (h : Reads w v n cs) (hs : w.heap.size ≤ w'.heap.size) (hc : ∀ b o, b < w.heap.size → w'.cell? ⟨b, o, none⟩ = w.cell? ⟨b, o, none⟩) : Reads w' v n cs := by
  rcases h with h | ⟨b, off, cap, h1, h2, h3, h4, h5⟩
  · exact .inl h
  · exact .inr ⟨b, off, cap, h1, h2, h3, Nat.lt_of_lt_of_le h4 hs, fun i c hi => by rw [hc _ _ h4]; exact h5 i c hi⟩

theorem Reads.below {w w' : World} {v : Value} {n : Nat} {cs : List Value} (h : Reads w v n cs) (hb : Below w.heap.size w w') : Reads w' v n cs :=
  h.kept hb.size fun b o hlt => hb.cell (p := ⟨b, o, none⟩) hlt

theorem Reads.alloc {w : World} {v : Value} {n : Nat} {cs : List Value} (h : Reads w v n cs) (o : Obj) : Reads (w.alloc o) v n cs :=
  h.below ((Below.refl _ _).alloc (Nat.le_refl _) _)

theorem Reads.drewN {w : World} {v : Value} {n : Nat} {cs : List Value} (h : Reads w v n cs) (k : Nat) : Reads (w.drewN k) v n cs := h

theorem Reads.of_drewN {w : World} {v : Value} {n k : Nat} {cs : List Value} (h : Reads (w.drewN k) v n cs) : Reads w v n cs := h

theorem Reads.lenLe {w : World} {v : Value} {n : Nat} {cs : List Value} (h : Reads w v n cs) : n ≤ maxLen := by
  rcases h with ⟨_, _, _, rfl, _⟩ | ⟨b, off, cap, _, h2, h3, _⟩
  · exact Nat.zero_le _
  · omega

theorem Reads.own {w : World} {base : Nat} {e : TypeId} {size : Nat} {v : Value} {n : Nat} {cs : List Value} (h : w.ownsRow base e size v n cs) : Reads w v n cs := by
  have hlt := h.lt
  have hcell := @World.ownsRow.cells w base e size v n cs h
  rcases h.2 with ⟨h1, h2⟩ | ⟨g, cap, cur, h1, h2, h3, h4, h5, h6, h7⟩
  · subst h2
    exact .inl ⟨_, _, h1, rfl, List.eq_nil_of_length_eq_zero (by simpa using h.1)⟩
  · subst h1
    refine .inr ⟨g, 0, cap, rfl, h4, h5, (hlt g rfl).2, ?_⟩
    intro i c hi
    have := hcell (g := g) rfl i c hi
    rw [addr_add] at this
    exact this

/-- A slice that was just written out. -/
theorem Reads.lit (w : World) (c : Array Value) (T : TypeId) (n m : Nat) (hm : m = w.heap.size) (hn : n ≤ maxLen) : Reads (w.alloc (.cells c T)) (.slice (some ⟨m, 0, none⟩) n n) n c.toList := by
  subst hm
  refine .inr ⟨_, 0, n, rfl, Nat.le_refl _, hn, by simp, ?_⟩
  intro i v hi
  rw [Nat.zero_add]
  exact cell_row w c T i v (by simpa using hi)

theorem Reads.some {w : World} {v : Value} {n : Nat} {cs : List Value} (h : Reads w v n cs) (hn : 0 < n) :
    ∃ b off cap, v = .slice (some ⟨b, off, none⟩) n cap ∧ n ≤ cap ∧ cap ≤ maxLen ∧ b < w.heap.size ∧ ∀ i c, cs[i]? = some c → w.cell? ⟨b, off + i, none⟩ = some c := by
  rcases h with ⟨_, _, _, h, _⟩ | h
  · omega
  · exact h

theorem own_below {w w' : World} {base : Nat} {e : TypeId} {size : Nat} {v : Value} {n : Nat} {cs : List Value} (h : w.ownsRow base e size v n cs) (hb : Below w.heap.size w w') : w'.ownsRow base e size v n cs :=
  h.kept (row := none) ⟨hb.os, hb.tape, hb.output, hb.size, fun k hk _ => hb.block k hk⟩ (by cases hv : v.ownBlock <;> simp)

theorem Reads.shape {w : World} {v : Value} {n : Nat} {cs : List Value} (h : Reads w v n cs) : ∃ a cap, v = .slice a n cap := by
  rcases h with ⟨_, _, rfl, rfl, _⟩ | ⟨b, off, cap, rfl, _⟩
  · exact ⟨_, _, rfl⟩
  · exact ⟨_, _, rfl⟩

theorem below_pushed {w wr w' : World} {e : TypeId} {size : Nat} {v : Value} {n : Nat} {xs : List Value} (hb : Below w.heap.size w wr) (hown : wr.ownsRow w.heap.size e size v n xs) (o : Obj) (hg : (wr.alloc o).grownBy w' v.ownBlock) : Below w.heap.size w w' :=
  (hb.alloc hb.size o).grown hg (by have := hb.size; simp; omega) (fun k hk => (hown.lt k hk).1)

theorem bel_trans {a b c : World} (h : Below a.heap.size a b) (k : Below b.heap.size b c) : Below a.heap.size a c := h.trans (k.mono h.size)
theorem bel_alloc (w : World) (o : Obj) : Below w.heap.size w (w.alloc o) := (Below.refl _ _).alloc (Nat.le_refl _) _
theorem bel_drewN (w : World) (n : Nat) : Below w.heap.size w (w.drewN n) := ⟨rfl, rfl, rfl, Nat.le_refl _, fun _ _ => rfl⟩
theorem bel_drew (w : World) : Below w.heap.size w w.drew := ⟨rfl, rfl, rfl, Nat.le_refl _, fun _ _ => rfl⟩
theorem bel_alloc_drewN (w : World) (o : Obj) (n : Nat) : Below w.heap.size w ((w.alloc o).drewN n) := bel_trans (bel_alloc w o) (bel_drewN _ n)

def ints (xs : List Int) : List Value := xs.map (Value.int .i64)
theorem ints_at {xs : List Int} {i : Nat} {x : Int} (h : xs[i]? = some x) : (ints xs)[i]? = some (.int .i64 x) := by simp [ints, h]

theorem ints_cell {w : World} {b off : Nat} {xs : List Int} (h : ∀ i c, (ints xs)[i]? = some c → w.cell? ⟨b, off + i, none⟩ = some c) (i : Nat) (x : Int) (hx : xs[i]? = some x) : w.cell? ⟨b, off + i, none⟩ = some (.int .i64 x) := h i _ (ints_at hx)

theorem ints_one (xs : List Int) : ∀ u ∈ ints xs, u.oneCell' = true := ints_oneCell .i64 xs

theorem drewN_zero (w : World) : w.drewN 0 = w := rfl

theorem eq_take_step (xs ys : List Int) (k : Nat) (x y : Int) (hx : xs[k]? = some x) (hy : ys[k]? = some y) (h : xs.take k = ys.take k) (hxy : x = y) : xs.take (k + 1) = ys.take (k + 1) := by
  rw [take_snoc_of xs k x hx, take_snoc_of ys k y hy, h, hxy]

theorem ints_snoc (xs : List Int) (x : Int) : ints xs ++ [Value.int .i64 x] = ints (xs ++ [x]) := by simp [ints]
theorem ints_len (xs : List Int) : (ints xs).length = xs.length := by simp [ints]

theorem ints_append (a b : List Int) : ints (a ++ b) = ints a ++ ints b := by simp [ints]

theorem wf64 {n : Int} (h : (Lit.int .i64 n).wf = true) : -(2 : Int) ^ 63 ≤ n ∧ n ≤ (2 : Int) ^ 63 - 1 := by
  have := bounds_i64 h
  omega

theorem drewN_add (w : World) (a b : Nat) : (w.drewN a).drewN b = w.drewN (a + b) := by
  unfold World.drewN
  simp only [World.mk.injEq, true_and, and_true]
  omega

end Go.Proofs.Ytllecjhfbojgcaa
