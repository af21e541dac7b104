/-
  The walk through the statement PipeKnown.
-/
import Derived.Test.YtgoglcggnmfapaaPipeBytes
namespace Go.Proofs.Ytgoglcggnmfapaa
open Go.RowKit Go.Conc

def exMsg : MsgP := ⟨1, 0, [(1, 2, 3)]⟩
def exBad : MsgP := ⟨0, 1, [(0, 0, 0)]⟩
theorem exMsg_may : mayB exMsg = true := by decide +kernel
theorem exBad_may : mayB exBad = false := by decide +kernel
theorem exMsg_in : In64M exMsg := by
  have h : ∀ n : Int, 0 ≤ n → n < 9 → Cl.In64 n := fun n h1 h2 => by unfold Cl.In64; omega
  refine ⟨h 1 (by decide) (by decide), h 0 (by decide) (by decide), fun r hr => ?_⟩
  simp only [exMsg, List.mem_cons, List.not_mem_nil, or_false] at hr
  subst hr
  exact ⟨h 1 (by decide) (by decide), h 2 (by decide) (by decide), h 3 (by decide) (by decide)⟩
theorem exMsg_bytes : (⟨(msgBytes exMsg).toArray⟩ : ByteArray) = ⟨#[2, 0, 2, 2, 4, 6]⟩ := by kernel_rfl

theorem ex_bytes (m : Nat) (w : World) (hm : m = w.heap.size) : Calls Try.prog 21 #[.agg #[.int .i64 1, .int .i64 0, .slice (some ⟨m, 0, none⟩) 1 1]] (w.alloc (.cells #[.int .i64 1, .int .i64 2, .int .i64 3] 50)) fun e w' => e = .returned (.tuple #[.string ⟨#[2, 0, 2, 2, 4, 6]⟩, .int .i64 0]) ∧ Below w.heap.size w w' := by
  refine (pbytes_ok exMsg _ _ (Reads.lit _ _ _ 1 _ hm (by decide)) exMsg_may exMsg_in (by decide)).mono ?_
  rintro e w' ⟨rfl, hb⟩
  rw [exMsg_bytes]
  exact ⟨rfl, bel_trans (bel_alloc _ _) hb⟩
theorem ex_may (m : Nat) (w : World) (hm : m = w.heap.size) : Calls Try.prog 22 #[.agg #[.int .i64 0, .int .i64 1, .slice (some ⟨m, 0, none⟩) 1 1]] (w.alloc (.cells #[.int .i64 0, .int .i64 0, .int .i64 0] 50)) fun e w' => e = .returned (.bool false) ∧ Below w.heap.size w w' := by
  refine (may_any exBad _ _ (Reads.lit _ _ _ 1 _ hm (by decide))).mono ?_
  rintro e w' ⟨rfl, hb⟩
  rw [exBad_may]
  exact ⟨rfl, bel_trans (bel_alloc _ _) hb⟩

theorem pipeKnown_walk (w : World) :
    Calls Try.prog 5 #[] w fun e w' => e = .returned (.bool true) ∧ Below w.heap.size w w' := by
  go_enter Try.func5, Try.ntmps5
  go_wp2_with fail
  refine (ex_bytes _ _ (by simp)).mono ?_
  rintro e w1 ⟨rfl, hb1⟩
  go_wp2_with fail
  refine (head_nil _).mono ?_
  rintro e w2 ⟨rfl, hb2⟩
  unfold zeroMsg
  go_wp2_with fail
  refine (take_nil _).mono ?_
  rintro e w3 ⟨rfl, hb3⟩
  unfold zeroMsg
  go_wp2_with fail
  refine (new_bad 9 _ (by decide)).mono ?_
  rintro e w4 ⟨rfl, hb4⟩
  subst hb4
  go_wp2_with fail
  refine (pworks_any _).mono ?_
  rintro e w5 ⟨rfl, hb5⟩
  go_wp2_with fail
  refine (pput_nil 0 0 _).mono ?_
  rintro e w6 ⟨rfl, hb6⟩
  go_wp2_with fail
  refine (len_nil _).mono ?_
  rintro e w7 ⟨rfl, hb7⟩
  subst hb7
  go_wp2_with fail
  refine (room_nil _).mono ?_
  rintro e w8 ⟨rfl, hb8⟩
  subst hb8
  go_wp2_with fail
  refine (ex_may _ _ (by simp)).mono ?_
  rintro e w9 ⟨rfl, hb9⟩
  go_wp2_with fail
  go_ret
  have A := bel_alloc
  refine ⟨rfl, bel_trans hb1 ?_⟩
  first | refine bel_trans hb2 ?_ | refine bel_trans (bel_trans (A _ _) hb2) ?_
  first | refine bel_trans hb3 ?_ | refine bel_trans (bel_trans (A _ _) hb3) ?_
  first | refine bel_trans hb5 ?_ | refine bel_trans (bel_trans (A _ _) hb5) ?_
  first | refine bel_trans hb6 ?_ | refine bel_trans (bel_trans (A _ _) hb6) ?_
  first | exact hb9 | exact bel_trans (A _ _) hb9

end Go.Proofs.Ytgoglcggnmfapaa
