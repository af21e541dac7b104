/-
  The walk through the statement NamesKnown.
-/
import Derived.Test.YtpmelloanohlkaaNamesTurn
namespace Go.Proofs.Ytpmelloanohlkaa
open Go.RowKit

theorem at_is (s : ByteArray) (n p r : Nat) (w : World) (hs : s.size ≤ 140737488351232) (hn : (Lit.int .i64 n).wf = true) (h : (Cl.runes s)[n]? = some (p, r)) :
    Calls Try.prog 14 #[.string s, .int .i64 n] w fun e w' => e = .returned (.tuple #[.int .i32 r, .int .i64 p, .int .i64 0]) ∧ Below w.heap.size w w' := by
  refine (at_any s n w hs hn).mono fun e w' ht => ?_
  obtain ⟨⟨a, b, c, rfl, hc⟩, hb⟩ := ht
  rcases hc with ⟨x, -, hx, rfl, rfl, rfl⟩ | ⟨hout, -⟩
  · rw [Int.toNat_natCast, h] at hx
    cases hx
    exact ⟨rfl, hb⟩
  · have := (List.getElem?_eq_some_iff.1 h).1
    omega

theorem turned_is (s t : ByteArray) (w : World) (hs : s.size ≤ 140737488351232) (h : Cl.name s = true) (ht : Cl.turned s = t) :
    Calls Try.prog 15 #[.string s] w fun e w' => e = .returned (.tuple #[.string t, .int .i64 0]) ∧ Below w.heap.size w w' := by
  rw [← ht]; exact turned_ok s w hs h

theorem w2_is : Cl.wordsR ⟨#[97, 7]⟩ = ([], 10) := by kernel_rfl
theorem a1_is : (Cl.runes ⟨#[195, 182, 195, 159]⟩)[1]? = some (2, 223) := by kernel_rfl
theorem t1_name : Cl.name ⟨#[97, 195, 159, 99]⟩ = true := by kernel_rfl
theorem t1_is : Cl.turned ⟨#[97, 195, 159, 99]⟩ = ⟨#[99, 195, 159, 97]⟩ := by kernel_rfl
theorem t2_name : Cl.name ⟨#[97, 98, 49]⟩ = true := by kernel_rfl
theorem t2_is : Cl.turned ⟨#[97, 98, 49]⟩ = ⟨#[97, 98, 49]⟩ := by kernel_rfl
theorem n3_is : Cl.name ⟨#[97, 32, 98]⟩ = false := by kernel_rfl
theorem n4_is : Cl.name ⟨#[]⟩ = false := by kernel_rfl

theorem namesKnown_walk (w : World) :
    Calls Try.prog 7 #[] w fun e w' => e = .returned (.bool true) ∧ Below w.heap.size w w' := by
  go_enter Try.func7, Try.ntmps7
  go_wp2_with fail
  refine (words_is _ _ _ w (by decide) w2_is).mono ?_
  rintro e w1 ⟨v, rfl, -, hb1⟩
  go_wp2_with fail
  refine (at_is _ 1 2 223 _ (by decide) (by decide) a1_is).mono ?_
  rintro e w2 ⟨rfl, hb2⟩
  go_wp2_with fail
  refine (turned_is _ _ _ (by decide) t1_name t1_is).mono ?_
  rintro e w3 ⟨rfl, hb3⟩
  go_wp2_with fail
  refine (turned_is _ _ _ (by decide) t2_name t2_is).mono ?_
  rintro e w4 ⟨rfl, hb4⟩
  go_wp2_with fail
  refine (works_any _).mono ?_
  rintro e w5 ⟨rfl, hb5⟩
  go_wp2_with fail
  refine (name_is _ false _ (by decide) n3_is).mono ?_
  rintro e w6 ⟨rfl, hb6⟩
  go_wp2_with fail
  refine (name_is _ false _ (by decide) n4_is).mono ?_
  rintro e w7 ⟨rfl, hb7⟩
  go_wp2_with fail
  go_ret
  exact ⟨rfl, bel_trans hb1 (bel_trans hb2 (bel_trans hb3 (bel_trans hb4 (bel_trans hb5 (bel_trans hb6 hb7)))))⟩

end Go.Proofs.Ytpmelloanohlkaa
