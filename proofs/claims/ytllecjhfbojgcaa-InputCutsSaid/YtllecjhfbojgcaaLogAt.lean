/-
  The log in memory; end, Len, Sure, At walked.
-/
import Derived.Test.YtllecjhfbojgcaaDiskLive
import Derived.Test.YtllecjhfbojgcaaLogPlain
import Derived.Deep.RegionLawGrows
namespace Go.Proofs.Ytllecjhfbojgcaa
open Go.RowKit
set_option maxRecDepth 20000

/-- A row of the call's own, or one that is cut off: its capacity is its length. -/
def RowAt (w : World) (e : TypeId) (size : Nat) (v : Value) (n : Nat) (xs : List Value) : Prop :=
  w.ownsRow 0 e size v n xs ∨ (xs.length = n * size ∧ ∃ g cur, v = .slice (some ⟨g, 0, none⟩) n n ∧ w.heap[g]? = some (.cells cur e) ∧ n ≤ maxLen ∧ n * size ≤ cur.size ∧ cur.toList.take (n * size) = xs)

theorem RowAt.kept {w w' : World} {e : TypeId} {size : Nat} {v : Value} {n : Nat} {xs : List Value} (h : RowAt w e size v n xs) (hk : ∀ g, v.ownBlock = some g → w'.heap[g]? = w.heap[g]?) : RowAt w' e size v n xs := by
  rcases h with h | ⟨h1, g, cur, rfl, h2, h3⟩
  · exact .inl (own_kept h hk)
  · exact .inr ⟨h1, g, cur, rfl, (hk g rfl).trans h2, h3⟩
theorem RowAt.type {w : World} {e : TypeId} {size : Nat} {v : Value} {n : Nat} {xs : List Value} (h : RowAt w e size v n xs) : ∀ b, v.ownBlock = some b → ∃ cur, w.heap[b]? = some (.cells cur e) := fun b hb => by
  rcases h with h | ⟨h1, g, cur, rfl, h2, h3⟩
  · rcases h.2 with hh | ⟨g', cap', cur, hv, _, hcc, _⟩
    · rw [hh.1] at hb; cases hb
    · rw [hv] at hb
      simp only [Value.ownBlock, Option.some.injEq] at hb
      subst hb
      exact ⟨_, hcc⟩
  · simp only [Value.ownBlock, Option.some.injEq] at hb
    subst hb
    exact ⟨_, h2⟩
theorem RowAt.reads {w : World} {e : TypeId} {size : Nat} {v : Value} {n : Nat} {xs : List Value} (h : RowAt w e size v n xs) : Reads w v n xs := by
  rcases h with h | ⟨h1, g, cur, rfl, h2, h3, h4, h5⟩
  · exact Reads.own h
  · refine .inr ⟨g, 0, n, rfl, Nat.le_refl _, h3, (Array.getElem?_eq_some_iff.1 h2).1, fun i c hi => ?_⟩
    rw [Nat.zero_add]
    refine cells_at h2 i c ?_
    have hlt := (List.getElem?_eq_some_iff.1 hi).1
    rw [h1] at hlt
    rw [← h5, List.getElem?_take_of_lt hlt] at hi
    simpa using hi

/-- A log at l over the disk at d. -/
structure LogAt (w : World) (l d : Nat) (file : Int) (L : Lg.St) (G : Nat → Prop) : Prop where
  mem : G l
  lt : ∀ k, G k → k < w.heap.size
  size : (Lg.bytesOf L.rs).length ≤ 1000000000
  sure : L.sure ≤ L.rs.length
  cells : ∃ lv, w.heap[l]? = some (.cells #[ptr d 0, .int .i64 file, lv, .int .i64 (L.sure : Int)] 155) ∧ RowAt w 162 3 lv L.rs.length (Lg.cells L.rs) ∧ ∀ g, lv.ownBlock = some g → G g

theorem LogAt.kept {w w' : World} {l d : Nat} {file : Int} {L : Lg.St} {G : Nat → Prop} (h : LogAt w l d file L G) (hk : ∀ k, G k → w'.heap[k]? = w.heap[k]?) (hs : w.heap.size ≤ w'.heap.size) : LogAt w' l d file L G := by
  obtain ⟨lv, h1, h2, h3⟩ := h.cells
  exact ⟨h.mem, fun k hk' => Nat.lt_of_lt_of_le (h.lt k hk') hs, h.size, h.sure, lv, (hk l h.mem).trans h1, h2.kept (fun g hg => hk g (h3 g hg)), h3⟩
theorem LogAt.below {w w' : World} {l d : Nat} {file : Int} {L : Lg.St} {G : Nat → Prop} (h : LogAt w l d file L G) (hb : Below w.heap.size w w') : LogAt w' l d file L G := h.kept (fun k hk => hb.block k (h.lt k hk)) hb.size
theorem LogAt.only {w w' : World} {l d : Nat} {file : Int} {L : Lg.St} {F G : Nat → Prop} (h : LogAt w l d file L G) (hb : Only F w w') (hd : ∀ k, G k → ¬ F k) : LogAt w' l d file L G := h.kept (fun k hk => hb.block k (h.lt k hk) (hd k hk)) hb.size

theorem logcell {w : World} {l : Nat} {a b c d : Value} {T : TypeId} (h : w.heap[l]? = some (.cells #[a, b, c, d] T)) :
    (w.cell? ⟨l, 0, none⟩ = some a ∧ w.cell? ⟨l, 1, none⟩ = some b ∧ w.cell? ⟨l, 2, none⟩ = some c ∧ w.cell? ⟨l, 3, none⟩ = some d) ∧ w.frozen? ⟨l, 2, none⟩ = false ∧ w.frozen? ⟨l, 3, none⟩ = false :=
  ⟨⟨cells_at h 0 _ rfl, cells_at h 1 _ rfl, cells_at h 2 _ rfl, cells_at h 3 _ rfl⟩, cells_free h 2, cells_free h 3⟩

theorem loglen_nil (w : World) : Calls Try.prog 45 #[.pointer none] w fun e w' => e = .returned (.int .i64 0) ∧ w = w' := by
  go_enter Try.func45, Try.ntmps45
  go_wp2_with fail
  go_ret
  exact ⟨rfl, rfl⟩
theorem loglen_any (w : World) (l d : Nat) (file : Int) (L : Lg.St) (G : Nat → Prop) (h : LogAt w l d file L G) :
    Calls Try.prog 45 #[ptr l 0] w fun e w' => e = .returned (.int .i64 (L.rs.length : Int)) ∧ w = w' := by
  obtain ⟨lv, hc, hr, -⟩ := h.cells
  obtain ⟨⟨-, -, c2, -⟩, -, -⟩ := logcell hc
  obtain ⟨a, c, rfl⟩ := hr.reads.shape
  have hlen := hr.reads.lenLe
  unfold maxLen at hlen
  clear h hc hr
  unfold ptr
  go_enter Try.func45, Try.ntmps45
  go_wp2_with fail
  go_ret
  exact ⟨rfl, rfl⟩
theorem logend_any (w : World) (l d : Nat) (file : Int) (L : Lg.St) (G : Nat → Prop) (h : LogAt w l d file L G) (k : Nat) (hk : k ≤ L.rs.length) :
    Calls Try.prog 84 #[ptr l 0, .int .i64 (k : Int)] w fun e w' => e = .returned (.int .i64 (Lg.ends L.rs k : Int)) ∧ w = w' := by
  obtain ⟨lv, hc, hr, -⟩ := h.cells
  obtain ⟨⟨-, -, c2, -⟩, -, -⟩ := logcell hc
  have hlen := hr.reads.lenLe
  unfold maxLen at hlen
  cases k with
  | zero =>
    rw [Lg.ends_zero]
    clear h hc hr c2
    unfold ptr
    go_enter Try.func84, Try.ntmps84
    go_wp2_with fail
    go_ret
    exact ⟨rfl, rfl⟩
  | succ k =>
    obtain ⟨r, hr'⟩ : ∃ r, L.rs[k]? = some r := ⟨L.rs[k], by simp⟩
    obtain ⟨-, -, h2⟩ := Lg.cells_at L.rs k r hr'
    obtain ⟨b, o, cap, rfl, hcap, -, -, hcells⟩ := hr.reads.some (by omega)
    have g2 := hcells _ _ h2
    rw [← Nat.add_assoc] at g2
    have hz : (((k + 1 : Nat) : Int) == 0) = false := beq_eq_false_iff_ne.2 (by omega)
    have he : ((k + 1 : Nat) : Int) - 1 = (k : Int) := by omega
    have hlt : (k : Int) < (L.rs.length : Int) := by omega
    have hk2 : ((k + 1 : Nat) : Int) ≤ 9223372036854775807 := by omega
    obtain ⟨j, hj⟩ : ∃ j : Int, ((k + 1 : Nat) : Int) = j := ⟨_, rfl⟩
    rw [hj] at hz he hk2 ⊢
    have hj1 : 1 ≤ j := by omega
    obtain ⟨e, hee⟩ : ∃ e, Lg.ends L.rs (k + 1) = e := ⟨_, rfl⟩
    rw [hee] at g2 ⊢
    clear h hc hr hcells h2 hr' hj hee
    unfold ptr
    go_enter Try.func84, Try.ntmps84
    go_wp2_with fail
    go_ret
    exact ⟨rfl, rfl⟩

end Go.Proofs.Ytllecjhfbojgcaa
