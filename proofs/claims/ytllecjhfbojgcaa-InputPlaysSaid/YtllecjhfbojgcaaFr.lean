/-
  A frame: a world, and blocks that each step from there leaves as they are.
-/
import Derived.Test.YtllecjhfbojgcaaDiskLive
import Derived.Test.YtllecjhfbojgcaaLogPut
import Derived.OwnWalk
namespace Go.Proofs.Ytllecjhfbojgcaa
open Go.RowKit
set_option maxRecDepth 20000

structure Fr where
  w : World
  K : Nat → Prop
  lt : ∀ k, K k → k < w.heap.size
/-- All that stands in a world. -/
def Fr.all (w : World) : Fr := ⟨w, fun k => k < w.heap.size, fun _ h => h⟩
instance : Coe World Fr := ⟨Fr.all⟩

structure Since (f : Fr) (w : World) : Prop where
  os : w.os = f.w.os
  tape : w.tape = f.w.tape
  output : w.output = f.w.output
  size : f.w.heap.size ≤ w.heap.size
  block : ∀ k, f.K k → w.heap[k]? = f.w.heap[k]?

theorem Since.fresh {f : Fr} {w : World} (h : Since f w) {k : Nat} (hk : w.heap.size ≤ k) : ¬ f.K k := fun hf => by
  have := f.lt k hf
  have := h.size
  omega
theorem Since.only {f : Fr} {w w' : World} {S : Nat → Prop} (h : Since f w) (ho : Only S w w') (hS : ∀ i, S i → ¬ f.K i) : Since f w' :=
  ⟨ho.os.trans h.os, ho.tape.trans h.tape, ho.output.trans h.output, Nat.le_trans h.size ho.size, fun k hk => (ho.block k (Nat.lt_of_lt_of_le (f.lt k hk) h.size) (fun hs => hS k hs hk)).trans (h.block k hk)⟩
theorem Since.below {f : Fr} {w w' : World} (h : Since f w) (hb : Below w.heap.size w w') : Since f w' := h.only (S := fun _ => False) (Only.below hb) (fun _ h => h.elim)
theorem Since.bel {w0 w : World} (h : Since (Fr.all w0) w) : Below w0.heap.size w0 w := ⟨h.os, h.tape, h.output, h.size, h.block⟩
theorem Since.of {w0 w : World} (h : Below w0.heap.size w0 w) : Since (Fr.all w0) w := ⟨h.os, h.tape, h.output, h.size, h.block⟩

/-- From here on, and more blocks. -/
def Fr.more (f : Fr) {w : World} (h : Since f w) (K : Nat → Prop) (hK : ∀ k, K k → k < w.heap.size) : Fr :=
  ⟨w, fun k => f.K k ∨ K k, fun k hk => hk.elim (fun e => Nat.lt_of_lt_of_le (f.lt k e) h.size) (hK k)⟩
theorem Since.refl {f : Fr} {w : World} (h : Since f w) (K : Nat → Prop) (hK : ∀ k, K k → k < w.heap.size) : Since (f.more h K hK) w := ⟨rfl, rfl, rfl, Nat.le_refl _, fun _ _ => rfl⟩
theorem Since.more {f : Fr} {w w' : World} {h : Since f w} {K : Nat → Prop} {hK : ∀ k, K k → k < w.heap.size} (hm : Since (f.more h K hK) w') : Since f w' ∧ ∀ k, K k → w'.heap[k]? = w.heap[k]? :=
  ⟨⟨hm.os.trans h.os, hm.tape.trans h.tape, hm.output.trans h.output, Nat.le_trans h.size hm.size, fun k hk => (hm.block k (.inl hk)).trans (h.block k hk)⟩, fun k hk => hm.block k (.inr hk)⟩

/-- A disk in a frame. -/
def LiveF (f : Fr) (w : World) (d : Nat) (D : Dk.St) : Prop := ∃ F, DiskAt w d D F ∧ (∀ k, F k → ¬ f.K k) ∧ Since f w
theorem Live.frame {w0 w : World} {d : Nat} {D : Dk.St} (h : Live w0 w d D) : LiveF w0 w d D := by
  obtain ⟨F, h1, h2, h3⟩ := h
  exact ⟨F, h1, fun k hk hf => by have := h2 k hk; have hf : k < w0.heap.size := hf; omega, Since.of h3⟩
end Go.Proofs.Ytllecjhfbojgcaa

/-
  An append to a row, in a list of operations that draws no order.
-/
namespace Go.Proofs.Ytllecjhfbojgcaa
open Go.RowKit
set_option maxRecDepth 20000

/-- An append to a row of its own, or one that is cut off, in a list that draws no order. -/
theorem wpList_append_row {P : Program} {w : World} {ops : Array Oper} {rest : List Oper} {o : Oper} {a : Act} {Q : Exit → Act → World → Prop} (hgd : o.guard = none) (s x : Operand) (t : TypeId)
    (ho : o.op = .call { callee := .builtin .append, args := #[s, x], argTypes := #[t, t] })
    (e : TypeId) (i : TypeInfo) (z : Value) (size bytes : Nat) (ht : P.underlying t = some (.slice e)) (hi : P.info? e = some i) (hz : i.zero = some z)
    (hsize : i.size = size) (hby : i.bytes = bytes) (hzs : z.cells.size = size) (hsz : 0 < size)
    (v : Value) (n : Nat) (xs : List Value) (hs : a.eval s = v) (hown : RowAt w e size v n xs)
    (ad : Addr) (m c : Nat) (news : List Value) (hx : a.eval x = .slice (some ad) m c) (hl : news.length = m * size) (hnews : ∀ j u, news[j]? = some u → w.cell? (ad.add j) = some u) (h1 : ∀ u ∈ news, u.oneCell' = true)
    (hm : 0 < m) (h63 : n + m ≤ maxLen) (hbytes : (n + m) * bytes ≤ 140737488355328)
    (h : ∀ g cap w', w'.ownsRow 0 e size (.slice (some ⟨g, 0, none⟩) (n + m) cap) (n + m) (xs ++ news) → w.grownBy w' v.ownBlock → (v.ownBlock = some g ∨ w.heap.size ≤ g) → g < w'.heap.size → wpList P ops Q rest (a.put o.dst (.slice (some ⟨g, 0, none⟩) (n + m) cap)) w') : wpList P ops Q (o :: rest) a w := by
  refine wpList_plain hgd fun K hK => ?_
  have hw : Region.wanted o (yielded ops a.tmps) = true := by simp [Region.wanted, hgd]
  have := step_append_row (P := P) (w := w) (ops := ops) (o := o) (a := a) (K := K) (Q := Q) (E := True) hgd s x t ho e i z size bytes ht hi hz hsize hby hzs hsz v n xs hs hown ad m c news hx hl hnews h1 hm h63 hbytes (fun g cap w' h2 h3 h4 h5 => hK _ _ (h g cap w' h2 h3 h4 h5))
  rwa [if_pos hw] at this

end Go.Proofs.Ytllecjhfbojgcaa
