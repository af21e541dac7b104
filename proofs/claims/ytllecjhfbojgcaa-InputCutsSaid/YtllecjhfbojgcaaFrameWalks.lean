/-
  The walks through package frame and its reference: tail, Put.
-/
import Derived.Test.YtllecjhfbojgcaaBytesLaws
import Derived.Test.YtllecjhfbojgcaaSumCore
import Derived.Test.YtllecjhfbojgcaaFramePlain
namespace Go.Proofs.Ytllecjhfbojgcaa
open Go.RowKit
set_option maxRecDepth 20000

/-- The array of a sum's bytes, so far. -/
def tailCells (n : Nat) : Nat → Array Value
  | 0 => #[.int .u8 0, .int .u8 0, .int .u8 0, .int .u8 0]
  | 1 => #[.int .u8 (n % 256 : Nat), .int .u8 0, .int .u8 0, .int .u8 0]
  | 2 => #[.int .u8 (n % 256 : Nat), .int .u8 (n / 256 % 256 : Nat), .int .u8 0, .int .u8 0]
  | 3 => #[.int .u8 (n % 256 : Nat), .int .u8 (n / 256 % 256 : Nat), .int .u8 (n / 65536 % 256 : Nat), .int .u8 0]
  | _ => #[.int .u8 (n % 256 : Nat), .int .u8 (n / 256 % 256 : Nat), .int .u8 (n / 65536 % 256 : Nat), .int .u8 (n / 16777216 % 256 : Nat)]

theorem tail_string (n : Nat) (w : World) :
    (convert 165 9 (.slice (some ⟨w.heap.size, 0, none⟩) 4 4)).run Try.prog (w.alloc (.cells (tailCells n 4) 193)) = .ok (.string ⟨(Cl.tailB n).toArray⟩) (w.alloc (.cells (tailCells n 4) 193)) := by
  refine string_of_bytes Try.prog _ 165 9 5 w.heap.size 0 4 4 (Cl.tailB n) rfl Try.underlying165 Try.underlying5 Try.underlying9 ?_
  intro j hj
  rw [Nat.zero_add]
  rw [Cl.tailB_len] at hj
  have f : ∀ x : Nat, x < 256 → (UInt8.ofNat x).toNat = x := fun x hx => by rw [UInt8.toNat_ofNat']; omega
  refine cell_row w _ _ j _ ?_
  match j, hj with
  | 0, _ => simp [tailCells, Cl.tailB]
  | 1, _ => simp [tailCells, Cl.tailB]
  | 2, _ => simp [tailCells, Cl.tailB]
  | 3, _ => simp [tailCells, Cl.tailB]

set_option maxHeartbeats 1000000 in
theorem tail_any (n : Nat) (w : World) (hn : n < 4294967296) :
    Calls Try.prog 105 #[.int .u32 n] w fun e w' => e = .returned (.string ⟨(Cl.tailB n).toArray⟩) ∧ Below w.heap.size w w' := by
  have hcv := tail_string n w
  go_enter Try.func105, Try.ntmps105
  go_wp2_with fail
  go_loopw [4, 5] (fun _ i wr => ∃ k : Nat, k ≤ 4 ∧ i = .int .i64 k ∧ wr = w.alloc (.cells (tailCells n k) 193)) (fun _ i _ => 4 - (intOf i).toNat)
  case atStart => exact ⟨0, by omega, rfl, rfl⟩
  case round =>
    obtain ⟨k, hk, rfl, rfl⟩ := hrel
    have h5 : k = 0 ∨ k = 1 ∨ k = 2 ∨ k = 3 ∨ k = 4 := by omega
    rcases h5 with rfl | rfl | rfl | rfl | rfl
    · rw [show tailCells n 0 = #[.int .u8 0, .int .u8 0, .int .u8 0, .int .u8 0] from rfl]
      go_wp2_with fail
      go_roundw
      case rel => exact ⟨1, by omega, rfl, by simp [tailCells]⟩
      case measure => simp [intOf]
    · rw [show tailCells n 1 = #[.int .u8 (n % 256 : Nat), .int .u8 0, .int .u8 0, .int .u8 0] from rfl]
      go_wp2_with fail
      go_roundw
      case rel => exact ⟨2, by omega, rfl, by simp [tailCells]⟩
      case measure => simp [intOf]
    · rw [show tailCells n 2 = #[.int .u8 (n % 256 : Nat), .int .u8 (n / 256 % 256 : Nat), .int .u8 0, .int .u8 0] from rfl]
      go_wp2_with fail
      go_roundw
      case rel => exact ⟨3, by omega, rfl, by simp [tailCells]⟩
      case measure => simp [intOf]
    · rw [show tailCells n 3 = #[.int .u8 (n % 256 : Nat), .int .u8 (n / 256 % 256 : Nat), .int .u8 (n / 65536 % 256 : Nat), .int .u8 0] from rfl]
      go_wp2_with fail
      go_roundw
      case rel => exact ⟨4, by omega, rfl, by
        have e : (n : Int) / 16777216 % 256 = (n : Int) / 16777216 := by omega
        simp [tailCells, e]⟩
      case measure => simp [intOf]
    · go_wp2_with fail
      go_ret
      exact ⟨rfl, bel_alloc _ _⟩

/-- What Put answers. -/
def PutFSays (c : UInt8) (l : List UInt8) (w : World) (e : Ending) (w' : World) : Prop :=
  (c.toNat = 0 → e = .returned (.tuple #[.string ⟨#[]⟩, .int .i64 2])) ∧ (c.toNat ≠ 0 → 65536 < l.length → e = .returned (.tuple #[.string ⟨#[]⟩, .int .i64 3])) ∧
  (c.toNat ≠ 0 → l.length ≤ 65536 → e = .returned (.tuple #[.string ⟨(Cl.putF c l).toArray⟩, .int .i64 0])) ∧ Below w.heap.size w w'

theorem puttext_ok (s : ByteArray) (w : World) (hs : s.size ≤ 65536) :
    Calls Try.prog 104 #[.string s] w fun e w' => e = .returned (.tuple #[.string ⟨(Cl.putText s.data.toList).toArray⟩, .int .i64 0]) ∧ Below w.heap.size w w' :=
  (puttext_any s w (by omega)).mono fun e w' h => ⟨h.2.1 (by rw [len_data]; exact hs), h.2.2⟩
theorem puttext_long (s : ByteArray) (w : World) (hs : s.size ≤ 140737488351232) (hb : 65536 < s.size) :
    Calls Try.prog 104 #[.string s] w fun e w' => e = .returned (.tuple #[.string ⟨#[]⟩, .int .i64 3]) ∧ Below w.heap.size w w' :=
  (puttext_any s w hs).mono fun e w' h => ⟨h.1 (by rw [len_data]; exact hb), h.2.2⟩

set_option maxHeartbeats 1000000 in
theorem putf_any (c : UInt8) (s : ByteArray) (w : World) (hs : s.size ≤ 140737488351232) :
    Calls Try.prog 83 #[.int .u8 c.toNat, .string s] w (PutFSays c s.data.toList w) := by
  by_cases hc : c.toNat = 0
  · have hcb : ((c.toNat : Int) == 0) = true := by simp; omega
    have HC := Lib.hid hc
    clear hc hs
    go_enter Try.func83, Try.ntmps83
    go_wp2_with fail
    go_ret2
    exact ⟨fun _ => rfl, fun h => absurd HC.out h, fun h => absurd HC.out h, Below.refl _ _⟩
  · have hcb : ((c.toNat : Int) == 0) = false := by simp; omega
    have HC := Lib.hid hc
    by_cases hb : 65536 < s.size
    · have HB := Lib.hid hb
      have HS := Lib.hid hs
      clear hc hs hb
      go_enter Try.func83, Try.ntmps83
      go_wp2_with fail
      refine (puttext_long s _ HS.out HB.out).mono ?_
      rintro e w1 ⟨rfl, hb1⟩
      go_wp2_with fail
      go_ret2
      exact ⟨fun h => absurd h HC.out, fun _ _ => rfl, fun _ h => absurd h (by rw [len_data]; have := HB.out; omega), hb1⟩
    · have HB := Lib.hid (show s.size ≤ 65536 by omega)
      have hpl := (Cl.putText_len s.data.toList).2
      rw [len_data] at hpl
      have hpl2 : (Cl.putText s.data.toList).length ≤ 65546 := by omega
      obtain ⟨q, hq⟩ : ∃ q, Cl.putText s.data.toList = q := ⟨_, rfl⟩
      rw [hq] at hpl2
      have HQ := Lib.hid hq
      have hcv := fun (w : World) => one_byte w c.toNat c rfl
      clear hc hs hb hpl hq
      go_enter Try.func83, Try.ntmps83
      go_wp2_with fail
      refine (puttext_ok s _ HB.out).mono ?_
      rintro e w1 ⟨rfl, hb1⟩
      rw [HQ.out]
      go_wp2_with fail
      obtain ⟨b, hbb⟩ : ∃ b : ByteArray, (⟨#[c]⟩ : ByteArray) ++ ⟨q.toArray⟩ = b := ⟨_, rfl⟩
      have hbd : b.data.toList = Cl.bodyF c s.data.toList := by rw [← hbb]; simp [Cl.bodyF, HQ.out]
      have hbs : b.size ≤ 70000 := by
        have h1 : (⟨#[c]⟩ : ByteArray).size = 1 := rfl
        have h2 := size_mk q
        rw [← hbb, ByteArray.size_append]; omega
      have hal := Cl.adler_lt (Cl.bodyF c s.data.toList)
      rw [hbb]
      have HBD := Lib.hid hbd
      have HBB := Lib.hid hbb
      have HAL := Lib.hid hal
      clear hbd hbb hal hpl2 hcv
      refine (sumof_one b _ _ (by simp) (by unfold maxLen; omega)).mono ?_
      rintro e w2 ⟨rfl, rfl⟩
      rw [HBD.out]
      go_wp2_with fail
      refine (tail_any _ _ HAL.out).mono ?_
      rintro e w2 ⟨rfl, hb2⟩
      have ht4 := Cl.tailB_len (Cl.adler (Cl.bodyF c s.data.toList))
      generalize htl : Cl.tailB (Cl.adler (Cl.bodyF c s.data.toList)) = tl at *
      have hts := size_mk tl
      go_wp2_with fail
      go_ret2
      refine ⟨fun h => absurd h HC.out, fun _ h => absurd h (by rw [len_data]; have := HB.out; omega), fun _ _ => ?_, bel_trans hb1 (bel_trans (bel_trans (bel_alloc _ _) (bel_alloc _ _)) hb2)⟩
      unfold Cl.putF
      rw [← HBD.out, HBD.out, htl, ← HBD.out, ← mk_append, mk_data]
      rfl

end Go.Proofs.Ytllecjhfbojgcaa
