/-
  The walk through the statement NamesAts.
-/
import Derived.Test.YtpmelloanohlkaaNamesEq
namespace Go.Proofs.Ytpmelloanohlkaa
open Go.RowKit

theorem runeV_cell {w : World} {b off : Nat} {l : List (Nat × Nat)} (h : ∀ i c, (runeV l)[i]? = some c → w.cell? ⟨b, off + i, none⟩ = some c) (i : Nat) (x : Nat × Nat) (hx : l[i]? = some x) : w.cell? ⟨b, off + i, none⟩ = some (.int .i32 x.2) := h i _ (by simp [runeV, hx])
theorem ats_cell {w : World} {b off : Nat} {l : List (Nat × Nat)} (h : ∀ i c, (ints (ats l))[i]? = some c → w.cell? ⟨b, off + i, none⟩ = some c) (i : Nat) (x : Nat × Nat) (hx : l[i]? = some x) : w.cell? ⟨b, off + i, none⟩ = some (.int .i64 x.1) := h i _ (by simp [ints, ats, hx])

set_option maxHeartbeats 1000000 in
theorem namesAts_walk (s : ByteArray) (n : Int) (hs : s.size ≤ 140737488351232) (hn : (Lit.int .i64 n).wf = true) (w : World) :
    Calls Try.prog 4 #[.string s, .int .i64 n] w fun e w' => e = .returned (.bool true) ∧ Below w.heap.size w w' := by
  by_cases hl : 5000 < s.size
  · clear hn
    go_enter Try.func4, Try.ntmps4
    go_wp2_with fail
    refine (works_any _).mono ?_
    rintro e w1 ⟨rfl, hb1⟩
    go_wp2_with fail
    go_ret
    exact ⟨rfl, hb1⟩
  · have hs5 : s.size ≤ 5000 := by omega
    have HS := Lib.hid hs
    have HS5 := Lib.hid hs5
    have HN := Lib.hid hn
    clear hs hs5 hn
    go_enter Try.func4, Try.ntmps4
    go_wp2_with fail
    refine (runes_any s _ (by have := HS5.out; omega)).mono ?_
    rintro e w1 ⟨lv, av, rfl, hr1, hr2, hb1⟩
    go_wp2_with fail
    refine (at_any s n _ HS.out HN.out).mono ?_
    rintro e w2 ⟨⟨r, p, c, rfl, hc⟩, hb2⟩
    have hr1 := hr1.below hb2
    have hr2 := hr2.below hb2
    rcases hc with ⟨x, h0, hx, rfl, rfl, rfl⟩ | ⟨hout, rfl, rfl, rfl⟩
    · have hlt : n.toNat < (Cl.runes s).length := (List.getElem?_eq_some_iff.1 hx).1
      obtain ⟨m, rfl⟩ : ∃ m : Nat, n = m := ⟨n.toNat, by omega⟩
      simp only [Int.toNat_natCast] at hx hlt
      obtain ⟨b1, o1, k1, hv1, hk1, hK1, -, hc1⟩ := hr1.some (by omega)
      obtain ⟨b2, o2, k2, hv2, hk2, hK2, -, hc2⟩ := hr2.some (by omega)
      subst hv1
      subst hv2
      have e1 := runeV_cell hc1 m x hx
      have e2 := ats_cell hc2 m x hx
      have hc1 := Lib.hid hc1
      have hc2 := Lib.hid hc2
      clear hr1 hr2 hx h0
      generalize (Cl.runes s).length = L at *
      go_wp2_with fail
      refine (works_any _).mono ?_
      rintro e w3 ⟨rfl, hb3⟩
      go_wp2_with fail
      go_ret
      exact ⟨rfl, bel_trans hb1 (bel_trans hb2 hb3)⟩
    · obtain ⟨a1, c1, rfl⟩ := hr1.shape
      clear hr1 hr2
      generalize (Cl.runes s).length = L at *
      by_cases h0 : n < 0
      · go_wp2_with fail
        refine (works_any _).mono ?_
        rintro e w3 ⟨rfl, hb3⟩
        go_wp2_with fail
        go_ret
        exact ⟨rfl, bel_trans hb1 (bel_trans hb2 hb3)⟩
      · have h1 : (L : Int) ≤ n := by omega
        clear hout
        go_wp2_with fail
        refine (works_any _).mono ?_
        rintro e w3 ⟨rfl, hb3⟩
        go_wp2_with fail
        go_ret
        exact ⟨rfl, bel_trans hb1 (bel_trans hb2 hb3)⟩

end Go.Proofs.Ytpmelloanohlkaa
