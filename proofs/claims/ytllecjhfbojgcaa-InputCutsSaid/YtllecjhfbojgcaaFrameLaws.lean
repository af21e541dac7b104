/-
  The walks through the statements of layer 4: works, FrameKnown, FramePuts, FrameBack.
-/
import Derived.Test.YtllecjhfbojgcaaFrameRef
namespace Go.Proofs.Ytllecjhfbojgcaa
open Go.RowKit
set_option maxRecDepth 20000

theorem putf_ok (c : UInt8) (s : ByteArray) (w : World) (hc : c.toNat ≠ 0) (hs : s.size ≤ 65536) :
    Calls Try.prog 83 #[.int .u8 c.toNat, .string s] w fun e w' => e = .returned (.tuple #[.string ⟨(Cl.putF c s.data.toList).toArray⟩, .int .i64 0]) ∧ Below w.heap.size w w' :=
  (putf_any c s w (by omega)).mono fun _ _ h => ⟨h.2.2.1 hc (by rw [len_data]; exact hs), h.2.2.2⟩
theorem putf_zero (c : UInt8) (s : ByteArray) (w : World) (hc : c.toNat = 0) (hs : s.size ≤ 140737488351232) :
    Calls Try.prog 83 #[.int .u8 c.toNat, .string s] w fun e w' => e = .returned (.tuple #[.string ⟨#[]⟩, .int .i64 2]) ∧ Below w.heap.size w w' :=
  (putf_any c s w hs).mono fun _ _ h => ⟨h.1 hc, h.2.2.2⟩
theorem putf_long (c : UInt8) (s : ByteArray) (w : World) (hc : c.toNat ≠ 0) (hs : s.size ≤ 140737488351232) (hb : 65536 < s.size) :
    Calls Try.prog 83 #[.int .u8 c.toNat, .string s] w fun e w' => e = .returned (.tuple #[.string ⟨#[]⟩, .int .i64 3]) ∧ Below w.heap.size w w' :=
  (putf_any c s w hs).mono fun _ _ h => ⟨h.2.1 hc (by rw [len_data]; exact hb), h.2.2.2⟩
theorem refputf_ok (c : UInt8) (s : ByteArray) (w : World) (hc : c.toNat ≠ 0) (hs : s.size ≤ 65536) :
    Calls Try.prog 100 #[.int .u8 c.toNat, .string s] w fun e w' => e = .returned (.tuple #[.string ⟨(Cl.putF c s.data.toList).toArray⟩, .int .i64 0]) ∧ Below w.heap.size w w' :=
  (refputf_any c s w (by omega)).mono fun _ _ h => ⟨h.2.2.1 hc (by rw [len_data]; exact hs), h.2.2.2⟩
theorem refputf_zero (c : UInt8) (s : ByteArray) (w : World) (hc : c.toNat = 0) (hs : s.size ≤ 140737488351232) :
    Calls Try.prog 100 #[.int .u8 c.toNat, .string s] w fun e w' => e = .returned (.tuple #[.string ⟨#[]⟩, .int .i64 2]) ∧ Below w.heap.size w w' :=
  (refputf_any c s w hs).mono fun _ _ h => ⟨h.1 hc, h.2.2.2⟩
theorem refputf_long (c : UInt8) (s : ByteArray) (w : World) (hc : c.toNat ≠ 0) (hs : s.size ≤ 140737488351232) (hb : 65536 < s.size) :
    Calls Try.prog 100 #[.int .u8 c.toNat, .string s] w fun e w' => e = .returned (.tuple #[.string ⟨#[]⟩, .int .i64 3]) ∧ Below w.heap.size w w' :=
  (refputf_any c s w hs).mono fun _ _ h => ⟨h.2.1 hc (by rw [len_data]; exact hb), h.2.2.2⟩

theorem takef_tells (s : ByteArray) (c n : Nat) (t : List UInt8) (x : Int) (w : World) (hs : s.size ≤ 1000000) (h : Cl.takeF s.data.toList = (c, t, n, x)) :
    Calls Try.prog 103 #[.string s] w fun e w' => e = .returned (.tuple #[.int .u8 c, .string ⟨t.toArray⟩, .int .i64 n, .int .i64 x]) ∧ Below w.heap.size w w' := by
  refine (takef_any s w hs).mono fun e w' ht => ?_
  unfold TakeFSays at ht
  rw [h] at ht
  exact ht

theorem fk_put : Cl.putF 7 [97, 98, 99] = [7, 6, 97, 98, 99, 52, 1, 138, 2] := by decide +kernel
theorem fk_put1 : Cl.putF 1 [] = [1, 0, 2, 0, 4, 0] := by decide +kernel
theorem fk_take : Cl.takeF [7, 6, 97, 98, 99, 52, 1, 138, 2, 120] = (7, [97, 98, 99], 9, 0) := by decide +kernel
theorem fk_take0 : Cl.takeF [] = (0, [], 0, 20) := by decide +kernel
theorem fk_take1 : Cl.takeF [1, 0] = (0, [], 0, 20) := by decide +kernel


theorem putf_n (n : Int) (c : UInt8) (s : ByteArray) (r : List UInt8) (w : World) (hn : n = (c.toNat : Int)) (hc : c.toNat ≠ 0) (hs : s.size ≤ 65536) (hr : Cl.putF c s.data.toList = r) :
    Calls Try.prog 83 #[.int .u8 n, .string s] w fun e w' => e = .returned (.tuple #[.string ⟨r.toArray⟩, .int .i64 0]) ∧ Below w.heap.size w w' := by
  subst hn; rw [← hr]
  exact putf_ok c s w hc hs

end Go.Proofs.Ytllecjhfbojgcaa
