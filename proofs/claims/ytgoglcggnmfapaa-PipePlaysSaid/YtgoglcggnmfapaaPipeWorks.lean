/-
  works walked.
-/
import Derived.Test.YtgoglcggnmfapaaPipeTake
namespace Go.Proofs.Ytgoglcggnmfapaa
open Go.RowKit Go.Conc

theorem only_bel {B : Nat} {w w1 w2 : World} {pb cb : Nat} (h : Below B w w1) (k : Only (fun k => k = pb ∨ k = cb) w1 w2) (hB : B ≤ w.heap.size) (h1 : B ≤ pb) (h2 : B ≤ cb) : Below B w w2 :=
  h.trans (k.toBelow (Nat.le_trans hB h.size) (fun i hi => by rcases hi with rfl | rfl <;> assumption))
theorem only_cb {w w' : World} {pb cb : Nat} (h : Only (fun k => k = cb) w w') : Only (fun k => k = pb ∨ k = cb) w w' := h.mono (fun _ => .inr)

theorem new_ex (k : Int) (n : Nat) (w : World) (hk : k = n) (h1 : 1 ≤ n) (h8 : n ≤ 8) :
    Calls Try.prog 9 #[.int .i64 k] w fun e w' => ∃ pb cb, e = .returned (.tuple #[.pointer (some ⟨pb, 0, none⟩), .int .i64 0]) ∧ Below w.heap.size w w' ∧ w.heap.size ≤ pb ∧ w.heap.size ≤ cb ∧ PipeAt w' pb cb n none [] := by
  subst hk
  exact (new_ok n w h1 h8).mono fun e w' ⟨h1, h2, h3⟩ => ⟨_, _, h1, h2, by omega, Nat.le_refl _, h3⟩

def emptyMsg (n : Int) : MsgP := ⟨n, 0, []⟩
theorem may_empty (n : Int) (h : 0 ≤ n) : mayB (emptyMsg n) = true := by
  unfold mayB emptyMsg upB
  simp [h]

/-- Put of a message without records. -/
theorem put_empty (n : Int) (hn : 0 ≤ n) (w : World) (pb cb cap : Nat) (hd : Option (Nat × MsgV)) (q : List MsgV) (h : PipeAt w pb cb cap hd q) (hf : q.length + held hd < cap) :
    Calls Try.prog 11 #[.pointer (some ⟨pb, 0, none⟩), .agg #[.int .i64 n, .int .i64 0, .slice none 0 0]] w fun e w' => e = .returned (.int .i64 0) ∧ Only (fun k => k = pb ∨ k = cb) w w' ∧ PipeAt w' pb cb cap hd (q ++ [⟨n, 0, .slice none 0 0⟩]) :=
  (put_ok w pb cb cap hd q h (emptyMsg n) (.slice none 0 0) (Reads.nil _) (may_empty n hn) hf).mono fun _ _ ⟨h1, h2, h3⟩ => ⟨h1, only_cb h2, h3⟩
theorem put_empty_full (n : Int) (hn : 0 ≤ n) (w : World) (pb cb cap : Nat) (hd : Option (Nat × MsgV)) (q : List MsgV) (h : PipeAt w pb cb cap hd q) (hf : q.length + held hd = cap) :
    Calls Try.prog 11 #[.pointer (some ⟨pb, 0, none⟩), .agg #[.int .i64 n, .int .i64 0, .slice none 0 0]] w fun e w' => e = .returned (.int .i64 7) ∧ Below w.heap.size w w' :=
  put_full w pb cb cap hd q h (emptyMsg n) (.slice none 0 0) (Reads.nil _) (may_empty n hn) hf

set_option maxHeartbeats 2000000 in
theorem pworks_any (w : World) : Calls Try.prog 8 #[] w fun e w' => e = .returned (.bool true) ∧ Below w.heap.size w w' := by
  go_enter Try.func8, Try.ntmps8
  go_wp2_with fail
  refine (new_ex 1 1 _ rfl (by decide) (by decide)).mono ?_
  rintro e w1 ⟨pb, cb, rfl, hb1, hp1, hp2, hP1⟩
  go_wp2_with fail
  refine (put_empty 1 (by decide) _ pb cb 1 none [] hP1 (by decide)).mono ?_
  rintro e w2 ⟨rfl, ho2, hP2⟩
  have hb2 := only_bel hb1 ho2 (Nat.le_refl _) hp1 hp2
  clear hb1 ho2 hP1
  go_wp2_with fail
  refine (put_empty_full 2 (by decide) _ pb cb 1 none _ hP2 (by decide)).mono ?_
  rintro e w3 ⟨rfl, hb3⟩
  have hP3 := hP2.below hb3
  have hb3' := bel_trans hb2 hb3
  clear hb2 hb3 hP2
  go_wp2_with fail
  refine (head_some _ pb cb 1 none _ ⟨1, 0, .slice none 0 0⟩ [] hP3 rfl ⟨_, _, _, rfl⟩).mono ?_
  rintro e w4 ⟨rfl, hb, ho4, hP4⟩
  have hb4 := only_bel hb3' ho4 (Nat.le_refl _) hp1 hp2
  clear hb3' ho4 hP3
  rw [show MsgV.val ⟨1, 0, .slice none 0 0⟩ = .agg #[.int .i64 1, .int .i64 0, .slice none 0 0] from rfl]
  have hP4' := hP4
  have hP4 := hP4.below (bel_alloc w4 (.cells #[.int .i64 1, .int .i64 0, .slice none 0 0] 33))
  have hlt4 := hP4.lt
  go_wp2_with fail
  refine (take_some _ pb cb 1 _ _ ⟨1, 0, .slice none 0 0⟩ [] hP4 rfl ⟨_, _, _, rfl⟩).mono ?_
  rintro e w5 ⟨rfl, ho5, hP5⟩
  rw [show MsgV.val ⟨1, 0, .slice none 0 0⟩ = .agg #[.int .i64 1, .int .i64 0, .slice none 0 0] from rfl]
  have hlt4' := hP4'.lt
  have hm5 : w5.heap[w4.heap.size]? = some (.cells #[.int .i64 1, .int .i64 0, .slice none 0 0] 33) := (ho5.block _ (by simp) (by simp; omega)).trans (heap_alloc_new w4 _)
  have hb5 := only_bel (bel_trans hb4 (bel_alloc _ _)) ho5 (Nat.le_refl _) hp1 hp2
  have hP5 := hP5.below (bel_alloc w5 (.cells #[.int .i64 1, .int .i64 0, .slice none 0 0] 33))
  have HM5 := Lib.hid hm5
  have HB5 := Lib.hid hb5
  clear ho5 hb4 hP4 hlt4 hP4' hlt4' hm5 hb5
  go_wp2_with fail
  refine (take_none _ pb cb 1 _ _ hP5 rfl).mono ?_
  rintro e w6 ⟨rfl, hb6⟩
  unfold zeroMsg
  have hlt5 := (Array.getElem?_eq_some_iff.1 HM5.out).1
  have hm6 : w6.heap[w4.heap.size]? = some (.cells #[.int .i64 1, .int .i64 0, .slice none 0 0] 33) := (hb6.block _ (by simp; omega)).trans ((Below.heap_alloc _ _ _ hlt5).trans HM5.out)
  have hn6 : w6.heap[w5.heap.size]? = some (.cells #[.int .i64 1, .int .i64 0, .slice none 0 0] 33) := (hb6.block _ (by simp)).trans (heap_alloc_new w5 _)
  have m0 := cells_at hm6 0 (.int .i64 1) rfl
  have n0 := cells_at hn6 0 (.int .i64 1) rfl
  have l6 := (Array.getElem?_eq_some_iff.1 hn6).1
  have l7 := (Array.getElem?_eq_some_iff.1 hm6).1
  have HB6 := Lib.hid (bel_trans HB5.out (bel_trans (bel_alloc _ _) hb6))
  clear hP5 hb6 hm6 hn6
  go_wp2_with fail
  go_ret
  exact ⟨rfl, bel_trans HB6.out (bel_alloc _ _)⟩

end Go.Proofs.Ytgoglcggnmfapaa
