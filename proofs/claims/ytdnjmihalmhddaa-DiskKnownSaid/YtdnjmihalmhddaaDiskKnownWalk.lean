/-
  The walk through the statement DiskKnown.
-/
import Derived.Test.YtdnjmihalmhddaaDiskMovesWalk
namespace Go.Proofs.Ytdnjmihalmhddaa
open Go.RowKit

def kn0 : Dk.St := Dk.fresh 10
def kn1 : Dk.St := (Dk.append kn0 0 ⟨#[97, 98, 99, 100, 101]⟩).2
def kn2 : Dk.St := (Dk.sync kn1).2
def kn3 : Dk.St := (Dk.append kn2 1 ⟨#[115, 105, 120, 115, 105, 120]⟩).2
def kn4 : Dk.St := (Dk.power kn3 0).2
def kn5 : Dk.St := (Dk.sync kn4).2
def kn6 : Dk.St := Dk.crash kn5 0 0
def kn7 : Dk.St := (Dk.move kn6 0 1).2
theorem kn_f : (Dk.append kn0 0 ⟨#[97, 98, 99, 100, 101]⟩).1 = 0 ∧ (Dk.sync kn1).1 = 0 ∧ (Dk.append kn2 1 ⟨#[115, 105, 120, 115, 105, 120]⟩).1 = 7 ∧ Dk.leftOf kn3 = 5 ∧ (Dk.power kn3 0).1 = 0 ∧ (Dk.sync kn4).1 = 50 ∧ (Dk.read kn5 0).2 = 50 ∧ (Dk.move kn6 0 1).1 = 0 ∧ (Dk.read kn7 1).1 = ⟨#[97, 98, 99, 100, 101]⟩ :=
  ⟨by kernel_rfl, by kernel_rfl, by kernel_rfl, by kernel_rfl, by kernel_rfl, by kernel_rfl, by kernel_rfl, by kernel_rfl, by kernel_rfl⟩

set_option maxHeartbeats 4000000 in
theorem diskKnown_walk (w : World) :
    Calls Try.prog 4 #[] w fun e w' => e = .returned (.bool true) ∧ Below w.heap.size w w' := by
  have K := Lib.hid kn_f
  go_enter Try.func4, Try.ntmps4
  go_wp2_with fail
  refine (live_new 10 w (by decide)).mono ?_
  rintro e w1 ⟨rfl, h⟩
  have H := Lib.hid (show Live w w1 w.heap.size kn0 from h)
  clear h
  unfold ptr
  go_wp2_with fail
  refine (works_any _).mono ?_
  rintro e w2 ⟨rfl, hb⟩
  have H := Lib.hid (H.out.below hb)
  clear hb
  go_wp2_with fail
  refine (live_append H.out _ _ (show 0 ≤ 1000000000 by decide)).mono ?_
  rintro e w2 ⟨rfl, h⟩
  rw [K.out.1]
  have H := Lib.hid (show Live w w2 w.heap.size kn1 from h)
  clear h
  go_wp2_with fail
  refine (live_sync H.out).mono ?_
  rintro e w2 ⟨rfl, h⟩
  rw [K.out.2.1]
  have H := Lib.hid (show Live w w2 w.heap.size kn2 from h)
  clear h
  go_wp2_with fail
  refine (live_append H.out _ _ (show 0 ≤ 1000000000 by decide)).mono ?_
  rintro e w2 ⟨rfl, h⟩
  rw [K.out.2.2.1]
  have H := Lib.hid (show Live w w2 w.heap.size kn3 from h)
  clear h
  go_wp2_with fail
  refine (live_left H.out).mono ?_
  rintro e w2 ⟨rfl, rfl⟩
  rw [K.out.2.2.2.1]
  go_wp2_with fail
  refine (live_power H.out _ (by decide)).mono ?_
  rintro e w2 ⟨rfl, h⟩
  rw [K.out.2.2.2.2.1]
  have H := Lib.hid (show Live w w2 w.heap.size kn4 from h)
  clear h
  go_wp2_with fail
  refine (live_sync H.out).mono ?_
  rintro e w2 ⟨rfl, h⟩
  rw [K.out.2.2.2.2.2.1]
  have H := Lib.hid (show Live w w2 w.heap.size kn5 from h)
  clear h
  go_wp2_with fail
  refine (live_read H.out _).mono ?_
  rintro e w2 ⟨rfl, h⟩
  rw [K.out.2.2.2.2.2.2.1]
  have H := Lib.hid h
  clear h
  go_wp2_with fail
  refine (live_crash H.out _ _).mono ?_
  rintro e w2 ⟨rfl, h⟩
  have H := Lib.hid (show Live w w2 w.heap.size kn6 from h)
  clear h
  go_wp2_with fail
  refine (live_move H.out _ _ (show 0 ≤ 1000000000 by decide)).mono ?_
  rintro e w2 ⟨rfl, h⟩
  rw [K.out.2.2.2.2.2.2.2.1]
  have H := Lib.hid (show Live w w2 w.heap.size kn7 from h)
  clear h
  go_wp2_with fail
  refine (live_read H.out _).mono ?_
  rintro e w2 ⟨rfl, h⟩
  rw [K.out.2.2.2.2.2.2.2.2]
  have H := Lib.hid h
  clear h
  go_wp2_with fail
  refine (crash_nil _ _ _).mono ?_
  rintro e w3 ⟨rfl, rfl⟩
  go_wp2_with fail
  refine (read_nil _ _).mono ?_
  rintro e w3 ⟨rfl, hb⟩
  have H := Lib.hid (H.out.below hb)
  clear hb
  go_wp2_with fail
  refine (new_bad 0 _ (by decide)).mono ?_
  rintro e w3 ⟨rfl, rfl⟩
  go_wp2_with fail
  refine (append_nil _ _ _).mono ?_
  rintro e w4 ⟨rfl, hb⟩
  have H := Lib.hid (H.out.below hb)
  clear hb
  go_wp2_with fail
  refine (cut_nil _ _ _).mono ?_
  rintro e w5 ⟨rfl, hb⟩
  have H := Lib.hid (H.out.below hb)
  clear hb
  go_wp2_with fail
  refine (move_nil _ _ _).mono ?_
  rintro e w6 ⟨rfl, hb⟩
  have H := Lib.hid (H.out.below hb)
  clear hb
  go_wp2_with fail
  refine (sync_nil _).mono ?_
  rintro e w7 ⟨rfl, rfl⟩
  go_wp2_with fail
  refine (power_nil _ _).mono ?_
  rintro e w7 ⟨rfl, rfl⟩
  go_wp2_with fail
  refine (on_nil _).mono ?_
  rintro e w7 ⟨rfl, rfl⟩
  go_wp2_with fail
  refine (loose_nil _).mono ?_
  rintro e w7 ⟨rfl, rfl⟩
  go_wp2_with fail
  refine (left_nil _).mono ?_
  rintro e w7 ⟨rfl, rfl⟩
  go_wp2_with fail
  go_ret
  exact ⟨rfl, H.out.bel⟩

end Go.Proofs.Ytdnjmihalmhddaa
