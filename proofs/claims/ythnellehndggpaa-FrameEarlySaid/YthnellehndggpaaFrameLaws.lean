/-
  The walks through the statements of layer 4: works, FrameKnown, FramePuts, FrameBack.
-/
import Derived.Test.YthnellehndggpaaFrameRef
namespace Go.Proofs.Ythnellehndggpaa
open Go.RowKit

theorem putf_ok (c : UInt8) (s : ByteArray) (w : World) (hc : c.toNat ≠ 0) (hs : s.size ≤ 65536) :
    Calls Try.prog 30 #[.int .u8 c.toNat, .string s] w fun e w' => e = .returned (.tuple #[.string ⟨(Cl.putF c s.data.toList).toArray⟩, .int .i64 0]) ∧ Below w.heap.size w w' :=
  (putf_any c s w (by omega)).mono fun _ _ h => ⟨h.2.2.1 hc (by rw [len_data]; exact hs), h.2.2.2⟩
theorem putf_zero (c : UInt8) (s : ByteArray) (w : World) (hc : c.toNat = 0) (hs : s.size ≤ 140737488351232) :
    Calls Try.prog 30 #[.int .u8 c.toNat, .string s] w fun e w' => e = .returned (.tuple #[.string ⟨#[]⟩, .int .i64 2]) ∧ Below w.heap.size w w' :=
  (putf_any c s w hs).mono fun _ _ h => ⟨h.1 hc, h.2.2.2⟩
theorem putf_long (c : UInt8) (s : ByteArray) (w : World) (hc : c.toNat ≠ 0) (hs : s.size ≤ 140737488351232) (hb : 65536 < s.size) :
    Calls Try.prog 30 #[.int .u8 c.toNat, .string s] w fun e w' => e = .returned (.tuple #[.string ⟨#[]⟩, .int .i64 3]) ∧ Below w.heap.size w w' :=
  (putf_any c s w hs).mono fun _ _ h => ⟨h.2.1 hc (by rw [len_data]; exact hb), h.2.2.2⟩
theorem refputf_ok (c : UInt8) (s : ByteArray) (w : World) (hc : c.toNat ≠ 0) (hs : s.size ≤ 65536) :
    Calls Try.prog 33 #[.int .u8 c.toNat, .string s] w fun e w' => e = .returned (.tuple #[.string ⟨(Cl.putF c s.data.toList).toArray⟩, .int .i64 0]) ∧ Below w.heap.size w w' :=
  (refputf_any c s w (by omega)).mono fun _ _ h => ⟨h.2.2.1 hc (by rw [len_data]; exact hs), h.2.2.2⟩
theorem refputf_zero (c : UInt8) (s : ByteArray) (w : World) (hc : c.toNat = 0) (hs : s.size ≤ 140737488351232) :
    Calls Try.prog 33 #[.int .u8 c.toNat, .string s] w fun e w' => e = .returned (.tuple #[.string ⟨#[]⟩, .int .i64 2]) ∧ Below w.heap.size w w' :=
  (refputf_any c s w hs).mono fun _ _ h => ⟨h.1 hc, h.2.2.2⟩
theorem refputf_long (c : UInt8) (s : ByteArray) (w : World) (hc : c.toNat ≠ 0) (hs : s.size ≤ 140737488351232) (hb : 65536 < s.size) :
    Calls Try.prog 33 #[.int .u8 c.toNat, .string s] w fun e w' => e = .returned (.tuple #[.string ⟨#[]⟩, .int .i64 3]) ∧ Below w.heap.size w w' :=
  (refputf_any c s w hs).mono fun _ _ h => ⟨h.2.1 hc (by rw [len_data]; exact hb), h.2.2.2⟩

theorem takef_tells (s : ByteArray) (c n : Nat) (t : List UInt8) (x : Int) (w : World) (hs : s.size ≤ 1000000) (h : Cl.takeF s.data.toList = (c, t, n, x)) :
    Calls Try.prog 31 #[.string s] w fun e w' => e = .returned (.tuple #[.int .u8 c, .string ⟨t.toArray⟩, .int .i64 n, .int .i64 x]) ∧ Below w.heap.size w w' := by
  refine (takef_any s w hs).mono fun e w' ht => ?_
  unfold TakeFSays at ht
  rw [h] at ht
  exact ht

theorem fk_put : Cl.putF 7 [97, 98, 99] = [7, 6, 97, 98, 99, 52, 1, 138, 2] := by decide +kernel
theorem fk_put1 : Cl.putF 1 [] = [1, 0, 2, 0, 4, 0] := by decide +kernel
theorem fk_take : Cl.takeF [7, 6, 97, 98, 99, 52, 1, 138, 2, 120] = (7, [97, 98, 99], 9, 0) := by decide +kernel
theorem fk_take0 : Cl.takeF [] = (0, [], 0, 20) := by decide +kernel
theorem fk_take1 : Cl.takeF [1, 0] = (0, [], 0, 20) := by decide +kernel


theorem putf_n (n : Int) (c : UInt8) (s : ByteArray) (r : List UInt8) (w : World) (hn : n = (c.toNat : Int)) (hc : c.toNat ≠ 0) (hs : s.size ≤ 65536) (hr : Cl.putF c s.data.toList = r) :
    Calls Try.prog 30 #[.int .u8 n, .string s] w fun e w' => e = .returned (.tuple #[.string ⟨r.toArray⟩, .int .i64 0]) ∧ Below w.heap.size w w' := by
  subst hn; rw [← hr]
  exact putf_ok c s w hc hs

set_option maxHeartbeats 1000000 in
theorem fworks_any (w : World) :
    Calls Try.prog 32 #[] w fun e w' => e = .returned (.bool true) ∧ Below w.heap.size w w' := by
  go_enter Try.func32, Try.ntmps32
  go_wp2_with fail
  refine (putf_n 7 7 ⟨#[97, 98, 99]⟩ _ _ rfl (by decide) (by decide) fk_put).mono ?_
  rintro e w1 ⟨rfl, hb1⟩
  go_wp2_with fail
  have hcat : (⟨#[7, 6, 97, 98, 99, 52, 1, 138, 2]⟩ : ByteArray) ++ ⟨#[120]⟩ = ⟨#[7, 6, 97, 98, 99, 52, 1, 138, 2, 120]⟩ := by decide
  rw [hcat]
  clear hcat
  refine (takef_tells _ _ _ _ _ _ (by decide) fk_take).mono ?_
  rintro e w2 ⟨rfl, hb2⟩
  go_wp2_with fail
  go_ret
  exact ⟨rfl, bel_trans hb1 hb2⟩


set_option maxHeartbeats 1000000 in
theorem frameKnown_walk (w : World) :
    Calls Try.prog 10 #[] w fun e w' => e = .returned (.bool true) ∧ Below w.heap.size w w' := by
  go_enter Try.func10, Try.ntmps10
  go_wp2_with fail
  refine (putf_n 1 1 ⟨#[]⟩ _ _ rfl (by decide) (by decide) fk_put1).mono ?_
  rintro e w1 ⟨rfl, hb1⟩
  go_wp2_with fail
  refine (show Calls Try.prog 30 #[.int .u8 0, .string ⟨#[97]⟩] _ _ from putf_zero 0 ⟨#[97]⟩ _ rfl (by decide)).mono ?_
  rintro e w2 ⟨rfl, hb2⟩
  go_wp2_with fail
  refine (takef_tells ⟨#[]⟩ _ _ _ _ _ (by decide) fk_take0).mono ?_
  rintro e w3 ⟨rfl, hb3⟩
  go_wp2_with fail
  refine (takef_tells ⟨#[1, 0]⟩ _ _ _ _ _ (by decide) fk_take1).mono ?_
  rintro e w4 ⟨rfl, hb4⟩
  go_wp2_with fail
  refine (fworks_any _).mono ?_
  rintro e w5 ⟨rfl, hb5⟩
  go_wp2_with fail
  go_ret
  exact ⟨rfl, bel_trans hb1 (bel_trans hb2 (bel_trans hb3 (bel_trans hb4 hb5)))⟩

set_option maxHeartbeats 1000000 in
theorem framePuts_walk0 (c : UInt8) (s : ByteArray) (hs : s.size ≤ 140737488351232) (w : World) :
    Calls Try.prog 11 #[.int .u8 c.toNat, .string s] w fun e w' => e = .returned (.bool true) ∧ Below w.heap.size w w' := by
  have HS := Lib.hid hs
  by_cases hlen : 70000 < s.size
  · have hd : decide ((70000 : Int) < s.size) = true := by simp; omega
    clear hlen hs
    go_enter Try.func11, Try.ntmps11
    go_wp2_with fail
    refine (fworks_any _).mono ?_
    rintro e w1 ⟨rfl, hb1⟩
    go_wp2_with fail
    go_ret
    exact ⟨rfl, hb1⟩
  · have hd : decide ((70000 : Int) < s.size) = false := by simp; omega
    by_cases hc : c.toNat = 0
    · have HC := Lib.hid hc
      clear hlen hs hc
      go_enter Try.func11, Try.ntmps11
      go_wp2_with fail
      refine (putf_zero c s _ HC.out HS.out).mono ?_
      rintro e w1 ⟨rfl, hb1⟩
      go_wp2_with fail
      refine (refputf_zero c s _ HC.out HS.out).mono ?_
      rintro e w2 ⟨rfl, hb2⟩
      go_wp2_with fail
      refine (fworks_any _).mono ?_
      rintro e w3 ⟨rfl, hb3⟩
      go_wp2_with fail
      go_ret
      exact ⟨rfl, bel_trans hb1 (bel_trans hb2 hb3)⟩
    · have HC := Lib.hid hc
      by_cases hb : 65536 < s.size
      · have HB := Lib.hid hb
        clear hlen hs hc hb
        go_enter Try.func11, Try.ntmps11
        go_wp2_with fail
        refine (putf_long c s _ HC.out HS.out HB.out).mono ?_
        rintro e w1 ⟨rfl, hb1⟩
        go_wp2_with fail
        refine (refputf_long c s _ HC.out HS.out HB.out).mono ?_
        rintro e w2 ⟨rfl, hb2⟩
        go_wp2_with fail
        refine (fworks_any _).mono ?_
        rintro e w3 ⟨rfl, hb3⟩
        go_wp2_with fail
        go_ret
        exact ⟨rfl, bel_trans hb1 (bel_trans hb2 hb3)⟩
      · have HB := Lib.hid (show s.size ≤ 65536 by omega)
        clear hlen hs hc hb
        go_enter Try.func11, Try.ntmps11
        go_wp2_with fail
        refine (putf_ok c s _ HC.out HB.out).mono ?_
        rintro e w1 ⟨rfl, hb1⟩
        go_wp2_with fail
        refine (refputf_ok c s _ HC.out HB.out).mono ?_
        rintro e w2 ⟨rfl, hb2⟩
        go_wp2_with fail
        refine (fworks_any _).mono ?_
        rintro e w3 ⟨rfl, hb3⟩
        go_wp2_with fail
        go_ret
        exact ⟨rfl, bel_trans hb1 (bel_trans hb2 hb3)⟩

theorem framePuts_walk (k : Int) (s : ByteArray) (w0 : (Lit.int .u8 k).wf = true) (hs : s.size ≤ 140737488351232) (w : World) :
    Calls Try.prog 11 #[.int .u8 k, .string s] w fun e w' => e = .returned (.bool true) ∧ Below w.heap.size w w' := by
  obtain ⟨c, rfl⟩ := u8_of_int k w0
  exact framePuts_walk0 c s hs w

end Go.Proofs.Ythnellehndggpaa
