/-
  The walks through package frame and its reference: tail, Put.
-/
import Derived.Test.YtllecjhfbojgcaaBytesRef
import Derived.Test.YtllecjhfbojgcaaSumCore
import Derived.Test.YtllecjhfbojgcaaFramePlain
import Derived.Deep.RegionHeld3
namespace Go.Proofs.Ytllecjhfbojgcaa
open Go.RowKit
set_option maxRecDepth 20000

/-- The array of a sum's bytes, so far. -/
def tailCells (n : Nat) : Nat → Array Value
  | 0 => #[.int .u8 0, .int .u8 0, .int .u8 0, .int .u8 0]
  | 1 => #[.int .u8 (n % 256 : Nat), .int .u8 0, .int .u8 0, .int .u8 0]
  | 2 => #[.int .u8 (n % 256 : Nat), .int .u8 (n / 256 % 256 : Nat), .int .u8 0, .int .u8 0]
  | 3 => #[.int .u8 (n % 256 : Nat), .int .u8 (n / 256 % 256 : Nat), .int .u8 (n / 65536 % 256 : Nat), .int .u8 0]
  | _ => #[.int .u8 (n % 256 : Nat), .int .u8 (n / 256 % 256 : Nat), .int .u8 (n / 65536 % 256 : Nat), .int .u8 (n / 16777216 % 256 : Nat)]

theorem tail_string (n : Nat) (w : World) :
    (convert 165 9 (.slice (some ⟨w.heap.size, 0, none⟩) 4 4)).run Try.prog (w.alloc (.cells (tailCells n 4) 193)) = .ok (.string ⟨(Cl.tailB n).toArray⟩) (w.alloc (.cells (tailCells n 4) 193)) := by
  refine string_of_bytes Try.prog _ 165 9 5 w.heap.size 0 4 4 (Cl.tailB n) rfl Try.underlying165 Try.underlying5 Try.underlying9 ?_
  intro j hj
  rw [Nat.zero_add]
  rw [Cl.tailB_len] at hj
  have f : ∀ x : Nat, x < 256 → (UInt8.ofNat x).toNat = x := fun x hx => by rw [UInt8.toNat_ofNat']; omega
  refine cell_row w _ _ j _ ?_
  match j, hj with
  | 0, _ => simp [tailCells, Cl.tailB]
  | 1, _ => simp [tailCells, Cl.tailB]
  | 2, _ => simp [tailCells, Cl.tailB]
  | 3, _ => simp [tailCells, Cl.tailB]

set_option maxHeartbeats 5000000 in
theorem tail_any (n : Nat) (w : World) (hn : n < 4294967296) :
    Calls Try.prog 105 #[.int .u32 n] w fun e w' => e = .returned (.string ⟨(Cl.tailB n).toArray⟩) ∧ Below w.heap.size w w' := by
  have hcv := tail_string n w
  go_enter Try.func105, Try.ntmps105
  go_wp2_with fail
  go_loopw [4, 5] (fun _ i wr => ∃ k : Nat, k ≤ 4 ∧ i = .int .i64 k ∧ wr = w.alloc (.cells (tailCells n k) 193)) (fun _ i _ => 4 - (intOf i).toNat)
  case atStart => exact ⟨0, by omega, rfl, rfl⟩
  case round =>
    obtain ⟨k, hk, rfl, rfl⟩ := hrel
    have h5 : k = 0 ∨ k = 1 ∨ k = 2 ∨ k = 3 ∨ k = 4 := by omega
    rcases h5 with rfl | rfl | rfl | rfl | rfl
    · rw [show tailCells n 0 = #[.int .u8 0, .int .u8 0, .int .u8 0, .int .u8 0] from rfl]
      go_wp2_with fail
      go_roundw
      case rel => exact ⟨1, by omega, rfl, by simp [tailCells]⟩
      case measure => simp [intOf]
    · rw [show tailCells n 1 = #[.int .u8 (n % 256 : Nat), .int .u8 0, .int .u8 0, .int .u8 0] from rfl]
      go_wp2_with fail
      go_roundw
      case rel => exact ⟨2, by omega, rfl, by simp [tailCells]⟩
      case measure => simp [intOf]
    · rw [show tailCells n 2 = #[.int .u8 (n % 256 : Nat), .int .u8 (n / 256 % 256 : Nat), .int .u8 0, .int .u8 0] from rfl]
      go_wp2_with fail
      go_roundw
      case rel => exact ⟨3, by omega, rfl, by simp [tailCells]⟩
      case measure => simp [intOf]
    · rw [show tailCells n 3 = #[.int .u8 (n % 256 : Nat), .int .u8 (n / 256 % 256 : Nat), .int .u8 (n / 65536 % 256 : Nat), .int .u8 0] from rfl]
      go_wp2_with fail
      go_roundw
      case rel => exact ⟨4, by omega, rfl, by
        have e : (n : Int) / 16777216 % 256 = (n : Int) / 16777216 := by omega
        simp [tailCells, e]⟩
      case measure => simp [intOf]
    · go_wp2_with fail
      go_ret
      exact ⟨rfl, bel_alloc _ _⟩

/-- What Put answers. -/
def PutFSays (c : UInt8) (l : List UInt8) (w : World) (e : Ending) (w' : World) : Prop :=
  (c.toNat = 0 → e = .returned (.tuple #[.string ⟨#[]⟩, .int .i64 2])) ∧ (c.toNat ≠ 0 → 65536 < l.length → e = .returned (.tuple #[.string ⟨#[]⟩, .int .i64 3])) ∧
  (c.toNat ≠ 0 → l.length ≤ 65536 → e = .returned (.tuple #[.string ⟨(Cl.putF c l).toArray⟩, .int .i64 0])) ∧ Below w.heap.size w w'

theorem puttext_ok (s : ByteArray) (w : World) (hs : s.size ≤ 65536) :
    Calls Try.prog 104 #[.string s] w fun e w' => e = .returned (.tuple #[.string ⟨(Cl.putText s.data.toList).toArray⟩, .int .i64 0]) ∧ Below w.heap.size w w' :=
  (puttext_any s w (by omega)).mono fun e w' h => ⟨h.2.1 (by rw [len_data]; exact hs), h.2.2⟩
theorem puttext_long (s : ByteArray) (w : World) (hs : s.size ≤ 140737488351232) (hb : 65536 < s.size) :
    Calls Try.prog 104 #[.string s] w fun e w' => e = .returned (.tuple #[.string ⟨#[]⟩, .int .i64 3]) ∧ Below w.heap.size w w' :=
  (puttext_any s w hs).mono fun e w' h => ⟨h.1 (by rw [len_data]; exact hb), h.2.2⟩

set_option maxHeartbeats 5000000 in
theorem putf_any (c : UInt8) (s : ByteArray) (w : World) (hs : s.size ≤ 140737488351232) :
    Calls Try.prog 83 #[.int .u8 c.toNat, .string s] w (PutFSays c s.data.toList w) := by
  by_cases hc : c.toNat = 0
  · have hcb : ((c.toNat : Int) == 0) = true := by simp; omega
    have HC := Lib.hid hc
    clear hc hs
    go_enter Try.func83, Try.ntmps83
    go_wp2_with fail
    go_ret2
    exact ⟨fun _ => rfl, fun h => absurd HC.out h, fun h => absurd HC.out h, Below.refl _ _⟩
  · have hcb : ((c.toNat : Int) == 0) = false := by simp; omega
    have HC := Lib.hid hc
    by_cases hb : 65536 < s.size
    · have HB := Lib.hid hb
      have HS := Lib.hid hs
      clear hc hs hb
      go_enter Try.func83, Try.ntmps83
      go_wp2_with fail
      refine (puttext_long s _ HS.out HB.out).mono ?_
      rintro e w1 ⟨rfl, hb1⟩
      go_wp2_with fail
      go_ret2
      exact ⟨fun h => absurd h HC.out, fun _ _ => rfl, fun _ h => absurd h (by rw [len_data]; have := HB.out; omega), hb1⟩
    · have HB := Lib.hid (show s.size ≤ 65536 by omega)
      have hpl := (Cl.putText_len s.data.toList).2
      rw [len_data] at hpl
      have hpl2 : (Cl.putText s.data.toList).length ≤ 65546 := by omega
      obtain ⟨q, hq⟩ : ∃ q, Cl.putText s.data.toList = q := ⟨_, rfl⟩
      rw [hq] at hpl2
      have HQ := Lib.hid hq
      have hcv := fun (w : World) => one_byte w c.toNat c rfl
      clear hc hs hb hpl hq
      go_enter Try.func83, Try.ntmps83
      go_wp2_with fail
      refine (puttext_ok s _ HB.out).mono ?_
      rintro e w1 ⟨rfl, hb1⟩
      rw [HQ.out]
      go_wp2_with fail
      obtain ⟨b, hbb⟩ : ∃ b : ByteArray, (⟨#[c]⟩ : ByteArray) ++ ⟨q.toArray⟩ = b := ⟨_, rfl⟩
      have hbd : b.data.toList = Cl.bodyF c s.data.toList := by rw [← hbb]; simp [Cl.bodyF, HQ.out]
      have hbs : b.size ≤ 70000 := by
        have h1 : (⟨#[c]⟩ : ByteArray).size = 1 := rfl
        have h2 := size_mk q
        rw [← hbb, ByteArray.size_append]; omega
      have hal := Cl.adler_lt (Cl.bodyF c s.data.toList)
      rw [hbb]
      have HBD := Lib.hid hbd
      have HBB := Lib.hid hbb
      have HAL := Lib.hid hal
      clear hbd hbb hal hpl2 hcv
      refine (sumof_one b _ _ (by simp) (by unfold maxLen; omega)).mono ?_
      rintro e w2 ⟨rfl, rfl⟩
      rw [HBD.out]
      go_wp2_with fail
      refine (tail_any _ _ HAL.out).mono ?_
      rintro e w2 ⟨rfl, hb2⟩
      have ht4 := Cl.tailB_len (Cl.adler (Cl.bodyF c s.data.toList))
      generalize htl : Cl.tailB (Cl.adler (Cl.bodyF c s.data.toList)) = tl at *
      have hts := size_mk tl
      go_wp2_with fail
      go_ret2
      refine ⟨fun h => absurd h HC.out, fun _ h => absurd h (by rw [len_data]; have := HB.out; omega), fun _ _ => ?_, bel_trans hb1 (bel_trans (bel_trans (bel_alloc _ _) (bel_alloc _ _)) hb2)⟩
      unfold Cl.putF
      rw [← HBD.out, HBD.out, htl, ← HBD.out, ← mk_append, mk_data]
      rfl

end Go.Proofs.Ytllecjhfbojgcaa

/-
  The walks through the reference's tail and Put.
-/
namespace Go.Proofs.Ytllecjhfbojgcaa
open Go.RowKit
set_option maxRecDepth 20000

theorem tail_string2 (n : Nat) (w : World) (T : TypeId) (c : Array Value) (hc : c = tailCells n 4) :
    (convert 165 9 (.slice (some ⟨w.heap.size, 0, none⟩) 4 4)).run Try.prog (w.alloc (.cells c T)) = .ok (.string ⟨(Cl.tailB n).toArray⟩) (w.alloc (.cells c T)) := by
  subst hc
  refine string_of_bytes Try.prog _ 165 9 5 w.heap.size 0 4 4 (Cl.tailB n) rfl Try.underlying165 Try.underlying5 Try.underlying9 ?_
  intro j hj
  rw [Nat.zero_add]
  rw [Cl.tailB_len] at hj
  refine cell_row w _ _ j _ ?_
  match j, hj with
  | 0, _ => simp [tailCells, Cl.tailB]
  | 1, _ => simp [tailCells, Cl.tailB]
  | 2, _ => simp [tailCells, Cl.tailB]
  | 3, _ => simp [tailCells, Cl.tailB]

set_option maxHeartbeats 5000000 in
theorem reftail_any (n : Nat) (w : World) (hn : n < 4294967296) :
    Calls Try.prog 113 #[.int .u32 n] w fun e w' => e = .returned (.string ⟨(Cl.tailB n).toArray⟩) ∧ Below w.heap.size w w' := by
  have e : (n : Int) / 16777216 % 256 = (n : Int) / 16777216 := by omega
  have hcv := tail_string2 n w 5 #[.int .u8 ((n : Int) % 256), .int .u8 ((n : Int) / 256 % 256), .int .u8 ((n : Int) / 65536 % 256), .int .u8 ((n : Int) / 16777216)] (by simp [tailCells, e])
  clear e
  go_enter Try.func113, Try.ntmps113
  go_wp2_with fail
  go_ret
  exact ⟨rfl, bel_alloc _ _⟩

theorem refputtext_ok (s : ByteArray) (w : World) (hs : s.size ≤ 65536) :
    Calls Try.prog 112 #[.string s] w fun e w' => e = .returned (.tuple #[.string ⟨(Cl.putText s.data.toList).toArray⟩, .int .i64 0]) ∧ Below w.heap.size w w' :=
  (refputtext_any s w (by omega)).mono fun e w' h => ⟨h.2.1 (by rw [len_data]; exact hs), h.2.2⟩
theorem refputtext_long (s : ByteArray) (w : World) (hs : s.size ≤ 140737488351232) (hb : 65536 < s.size) :
    Calls Try.prog 112 #[.string s] w fun e w' => e = .returned (.tuple #[.string ⟨#[]⟩, .int .i64 3]) ∧ Below w.heap.size w w' :=
  (refputtext_any s w hs).mono fun e w' h => ⟨h.1 (by rw [len_data]; exact hb), h.2.2⟩

set_option maxHeartbeats 5000000 in
theorem refputf_any (c : UInt8) (s : ByteArray) (w : World) (hs : s.size ≤ 140737488351232) :
    Calls Try.prog 100 #[.int .u8 c.toNat, .string s] w (PutFSays c s.data.toList w) := by
  by_cases hc : c.toNat = 0
  · have hcb : ((c.toNat : Int) == 0) = true := by simp; omega
    have HC := Lib.hid hc
    clear hc hs
    go_enter Try.func100, Try.ntmps100
    go_wp2_with fail
    go_ret2
    exact ⟨fun _ => rfl, fun h => absurd HC.out h, fun h => absurd HC.out h, Below.refl _ _⟩
  · have hcb : ((c.toNat : Int) == 0) = false := by simp; omega
    have HC := Lib.hid hc
    by_cases hb : 65536 < s.size
    · have HB := Lib.hid hb
      have HS := Lib.hid hs
      clear hc hs hb
      go_enter Try.func100, Try.ntmps100
      go_wp2_with fail
      refine (refputtext_long s _ HS.out HB.out).mono ?_
      rintro e w1 ⟨rfl, hb1⟩
      go_wp2_with fail
      go_ret2
      exact ⟨fun h => absurd h HC.out, fun _ _ => rfl, fun _ h => absurd h (by rw [len_data]; have := HB.out; omega), hb1⟩
    · have HB := Lib.hid (show s.size ≤ 65536 by omega)
      have hpl := (Cl.putText_len s.data.toList).2
      rw [len_data] at hpl
      have hpl2 : (Cl.putText s.data.toList).length ≤ 65546 := by omega
      obtain ⟨q, hq⟩ : ∃ q, Cl.putText s.data.toList = q := ⟨_, rfl⟩
      rw [hq] at hpl2
      have HQ := Lib.hid hq
      have hcv := fun (w : World) => one_byte w c.toNat c rfl
      clear hc hs hb hpl hq
      go_enter Try.func100, Try.ntmps100
      go_wp2_with fail
      refine (refputtext_ok s _ HB.out).mono ?_
      rintro e w1 ⟨rfl, hb1⟩
      rw [HQ.out]
      go_wp2_with fail
      obtain ⟨b, hbb⟩ : ∃ b : ByteArray, (⟨#[c]⟩ : ByteArray) ++ ⟨q.toArray⟩ = b := ⟨_, rfl⟩
      have hbd : b.data.toList = Cl.bodyF c s.data.toList := by rw [← hbb]; simp [Cl.bodyF, HQ.out]
      have hbs : b.size ≤ 70000 := by
        have h1 : (⟨#[c]⟩ : ByteArray).size = 1 := rfl
        have h2 := size_mk q
        rw [← hbb, ByteArray.size_append]; omega
      have hal := Cl.adler_lt (Cl.bodyF c s.data.toList)
      rw [hbb]
      have HBD := Lib.hid hbd
      have HBB := Lib.hid hbb
      have HAL := Lib.hid hal
      clear hbd hbb hal hpl2 hcv
      refine (refof_any b _ (by unfold maxLen; omega)).mono ?_
      rintro e w2 ⟨rfl, rfl⟩
      rw [HBD.out]
      go_wp2_with fail
      refine (reftail_any _ _ HAL.out).mono ?_
      rintro e w2 ⟨rfl, hb2⟩
      have ht4 := Cl.tailB_len (Cl.adler (Cl.bodyF c s.data.toList))
      generalize htl : Cl.tailB (Cl.adler (Cl.bodyF c s.data.toList)) = tl at *
      have hts := size_mk tl
      go_wp2_with fail
      go_ret2
      refine ⟨fun h => absurd h HC.out, fun _ h => absurd h (by rw [len_data]; have := HB.out; omega), fun _ _ => ?_, bel_trans hb1 (bel_trans (bel_alloc _ _) hb2)⟩
      unfold Cl.putF
      rw [← HBD.out, HBD.out, htl, ← HBD.out, ← mk_append, mk_data]
      rfl

/-- What Take answers. -/
def TakeFSays (l : List UInt8) (w : World) (e : Ending) (w' : World) : Prop :=
  e = .returned (.tuple #[.int .u8 ((Cl.takeF l).1 : Nat), .string ⟨(Cl.takeF l).2.1.toArray⟩, .int .i64 ((Cl.takeF l).2.2.1 : Nat), .int .i64 (Cl.takeF l).2.2.2]) ∧ Below w.heap.size w w'

theorem takef_says {l t : List UInt8} {w w' : World} {tb : ByteArray} {c n : Nat} {x : Int} (h : Cl.takeF l = (c, t, n, x)) (ht : tb.data.toList = t) (hb : Below w.heap.size w w') :
    TakeFSays l w (.returned (.tuple #[.int .u8 c, .string tb, .int .i64 n, .int .i64 x])) w' := by
  unfold TakeFSays
  rw [h, mk_eq tb t ht]
  exact ⟨rfl, hb⟩

theorem takeF_cases (l : List UInt8) (c : UInt8) (r t : List UInt8) (k : Nat) (x : Int) (hl : l = c :: r) (h : Cl.takeText r = (t, k, x)) :
    (c.toNat = 0 → Cl.takeF l = (0, [], 0, 21)) ∧ (c.toNat ≠ 0 → x ≠ 0 → Cl.takeF l = (0, [], 0, x)) ∧ (c.toNat ≠ 0 → x = 0 → l.length < k + 1 + 4 → Cl.takeF l = (0, [], 0, 20)) ∧
    (c.toNat ≠ 0 → x = 0 → k + 1 + 4 ≤ l.length → (l.drop (k + 1)).take 4 ≠ Cl.tailB (Cl.adler (l.take (k + 1))) → Cl.takeF l = (0, [], 0, 40)) ∧
    (c.toNat ≠ 0 → x = 0 → k + 1 + 4 ≤ l.length → (l.drop (k + 1)).take 4 = Cl.tailB (Cl.adler (l.take (k + 1))) → Cl.takeF l = (c.toNat, t, k + 1 + 4, 0)) := by
  subst hl
  unfold Cl.takeF
  simp only
  rw [h]
  refine ⟨fun h1 => ?_, fun h1 h2 => ?_, fun h1 h2 h3 => ?_, fun h1 h2 h3 h4 => ?_, fun h1 h2 h3 h4 => ?_⟩
  · rw [if_pos h1]
  · rw [if_neg h1, if_pos h2]
  · rw [if_neg h1, if_neg (by simp only; omega), if_pos h3]
  · rw [if_neg h1, if_neg (by simp only; omega), if_neg (by simp only; omega), if_pos h4]
  · rw [if_neg h1, if_neg (by simp only; omega), if_neg (by simp only; omega), if_neg (by simp only; exact fun g => g h4)]

theorem head_drop (s : ByteArray) (h : 0 < s.size) : s.data.toList = s[0] :: s.data.toList.drop 1 := by
  have h1 : 0 < s.data.toList.length := by rw [len_data]; exact h
  have := List.drop_eq_getElem_cons h1
  rw [List.drop_zero] at this
  exact this

theorem taketext_says (s : ByteArray) (t : List UInt8) (k : Nat) (x : Int) (w : World) (hs : s.size ≤ 5000000) (h : Cl.takeText s.data.toList = (t, k, x)) :
    Calls Try.prog 115 #[.string s] w fun e w' => e = .returned (.tuple #[.string ⟨t.toArray⟩, .int .i64 k, .int .i64 x]) ∧ w = w' := by
  refine (taketext_any s w hs).mono fun e w' ht => ?_
  unfold TextSays at ht
  rw [h] at ht
  exact ht

theorem sumof_cell (s : ByteArray) (W : World) (b : Nat) (hc : W.cell? ⟨b, 0, none⟩ = some (.string s)) (hs : s.size ≤ maxLen) :
    Calls Try.prog 106 #[.slice (some ⟨b, 0, none⟩) 1 1] W fun e w' => e = .returned (.int .u32 (Cl.adler s.data.toList)) ∧ W = w' := by
  refine (sumof_any b 0 1 [s] W (by simp [maxLen]) (by simpa using hs) ?_).mono ?_
  · intro i x h
    rw [Nat.zero_add]
    match i, h with
    | 0, h => simp at h; subst h; exact hc
    | n + 1, h => simp at h
  · rintro e w' ⟨rfl, rfl⟩
    exact ⟨by simp [cat], rfl⟩

theorem cell_drew_row (w : World) (v : Value) (T : TypeId) : (w.alloc (.cells #[v] T)).drew.cell? ⟨w.heap.size, 0, none⟩ = some v := cell_row w _ _ 0 _ rfl

set_option maxHeartbeats 2000000 in
theorem takef_any (s : ByteArray) (w : World) (hs : s.size ≤ 5000000) :
    Calls Try.prog 103 #[.string s] w (TakeFSays s.data.toList w) := by
  by_cases h0 : s.size = 0
  · have hd := data_nil s h0
    have hem : s.toList.isEmpty = true := by rw [Lib.toList_data, hd]; rfl
    have hfin : Cl.takeF s.data.toList = (0, [], 0, 20) := by rw [hd]; rfl
    have HF := Lib.hid hfin
    clear hd hfin h0 hs
    go_enter Try.func103, Try.ntmps103
    go_wp2_with fail
    exact bodyPost_ret (v := .tuple #[.int .u8 0, .string ⟨#[]⟩, .int .i64 0, .int .i64 20]) (by simp [results, Try.results103, go_sem]) rfl (takef_says (c := 0) (n := 0) HF.out data_empty (Below.refl _ _))
  · have hpos : 0 < s.size := by omega
    have hem : s.toList.isEmpty = false := by
      rw [Lib.toList_data]
      have := data_ne s hpos
      simpa using this
    obtain ⟨t, k, x, htk⟩ : ∃ t k x, Cl.takeText (s.data.toList.drop 1) = (t, k, x) := ⟨_, _, _, rfl⟩
    obtain ⟨c1, c2, c3, c4, c5⟩ := takeF_cases _ s[0] _ t k x (head_drop s hpos) htk
    rw [len_data] at c3 c4 c5
    have hc256 : s[0].toNat < 256 := s[0].toNat_lt
    obtain ⟨rb, hrb⟩ : ∃ rb : ByteArray, s.extract 1 s.size = rb := ⟨_, rfl⟩
    have HT : Hid (Cl.takeText rb.data.toList = (t, k, x)) := Lib.hid (by rw [← hrb, drop_data]; exact htk)
    have HRS : Hid (rb.size ≤ 5000000) := Lib.hid (by rw [← hrb, extract_size]; omega)
    have HRB := Lib.hid hrb
    by_cases hc : s[0].toNat = 0
    · have hcb : ((s[0].toNat : Int) == 0) = true := by simp; omega
      have HF := Lib.hid (c1 hc)
      clear c1 c2 c3 c4 c5 hs hc h0 hrb htk
      go_enter Try.func103, Try.ntmps103
      go_wp2_with fail
      exact bodyPost_ret (v := .tuple #[.int .u8 0, .string ⟨#[]⟩, .int .i64 0, .int .i64 21]) (by simp [results, Try.results103, go_sem]) rfl (takef_says (c := 0) (n := 0) HF.out data_empty (Below.refl _ _))
    · have hcb : ((s[0].toNat : Int) == 0) = false := by simp; omega
      by_cases hx : x = 0
      · subst hx
        by_cases hsh : s.size < k + 1 + 4
        · have HF := Lib.hid (c3 hc rfl hsh)
          have hd := decide_eq_true (show (s.size : Int) < (k : Int) + 1 + 4 by omega)
          have hkl : k ≤ 5000000 := by
            have h1 := (Cl.takeText_ok _ _ _ HT.out).1
            rw [len_data] at h1
            have := HRS.out
            omega
          clear c1 c2 c3 c4 c5 hs hc h0 hrb htk
          go_enter Try.func103, Try.ntmps103
          go_wp2_with fail
          rw [HRB.out]
          refine (taketext_says rb t k 0 _ HRS.out HT.out).mono ?_
          rintro e w' ⟨rfl, rfl⟩
          go_wp2_with fail
          exact bodyPost_ret (v := .tuple #[.int .u8 0, .string ⟨#[]⟩, .int .i64 0, .int .i64 20]) (by simp [results, Try.results103, go_sem]) rfl (takef_says (c := 0) (n := 0) HF.out data_empty (Below.refl _ _))
        · clear c1 c2 c3
          have hlen : k + 1 + 4 ≤ s.size := by omega
          have hd : decide ((s.size : Int) < (k : Int) + 1 + 4) = false := by simp; omega
          obtain ⟨ub, hub⟩ : ∃ ub : ByteArray, s.extract 0 (k + 1) = ub := ⟨_, rfl⟩
          have hud : ub.data.toList = s.data.toList.take (k + 1) := by rw [← hub, Lib.extract_data]; simp
          have hus : ub.size ≤ 5000000 := by rw [← hub]; simp; omega
          have hal := Cl.adler_lt (s.data.toList.take (k + 1))
          have HUB := Lib.hid hub
          have HUD := Lib.hid hud
          have HUS := Lib.hid hus
          have HAL := Lib.hid hal
          have hk1 : 1 ≤ k := (Cl.takeText_ok _ _ _ htk).2.2.2
          have hkl : k ≤ 5000000 := by omega
          clear hub hud hus hal hrb htk hs h0
          by_cases hsum : (s.data.toList.drop (k + 1)).take 4 = Cl.tailB (Cl.adler (s.data.toList.take (k + 1)))
          · have HF := Lib.hid (c5 hc rfl hlen hsum)
            have hcmp : ((s.extract (k + 1) (k + 1 + 4)).toList == Cl.tailB (Cl.adler (s.data.toList.take (k + 1)))) = true := by
              rw [Lib.toList_data, cut_data, beq_iff_eq]; exact hsum
            clear c4 c5 hc hsh hsum
            go_enter Try.func103, Try.ntmps103
            go_wp2_with fail
            rw [HRB.out]
            refine (taketext_says rb t k 0 _ HRS.out HT.out).mono ?_
            rintro e w' ⟨rfl, rfl⟩
            go_wp2_with fail
            have b1 : (0 : Int) ≤ (k : Int) + 1 := by omega
            have b2 : (k : Int) + 1 ≤ (k : Int) + 1 + 4 := by omega
            have b3 : (k : Int) + 1 + 4 ≤ (s.size : Int) := by omega
            have b4 : (k : Int) + 1 ≤ (s.size : Int) := by omega
            have b5 : (0 : Int) ≤ (k : Int) + 1 + 4 := by omega
            have e1 : IntKind.i64.wrap ((k : Int) + 1 + 4) = (k : Int) + 1 + 4 := IntWalk.i64_in _ (by omega)
            have e2 : ((k : Int) + 1).toNat = k + 1 := by omega
            have e3 : ((k : Int) + 1 + 4).toNat = k + 1 + 4 := by omega
            go_region_held3 (fun _ => True) (trivial) (first | (go_at_call 106; refine (sumof_cell _ _ _ (cell_drew_row _ _ _) (by rw [HUB.out]; have := HUS.out; unfold maxLen; omega)).mono ?_; rintro e w2 ⟨rfl, rfl⟩; rw [HUB.out, HUD.out]) | (go_at_call 105; refine (tail_any _ _ HAL.out).mono ?_; rintro e w2 ⟨rfl, hb2⟩))
            clear b1 b2 b3 b4 b5 e1 e2 e3
            go_wp2_with fail
            exact bodyPost_ret (v := .tuple #[.int .u8 s[0].toNat, .string ⟨t.toArray⟩, .int .i64 ((k : Int) + 1 + 4), .int .i64 0]) (by simp [results, Try.results103, go_sem]) rfl (takef_says (c := s[0].toNat) (n := k + 1 + 4) HF.out rfl (bel_trans (bel_trans (bel_alloc _ _) (bel_drew _)) hb2))
          · have HF := Lib.hid (c4 hc rfl hlen hsum)
            have hcmp : ((s.extract (k + 1) (k + 1 + 4)).toList == Cl.tailB (Cl.adler (s.data.toList.take (k + 1)))) = false := by
              rw [Lib.toList_data, cut_data, beq_eq_false_iff_ne]; exact hsum
            clear c4 c5 hc hsh hsum
            go_enter Try.func103, Try.ntmps103
            go_wp2_with fail
            rw [HRB.out]
            refine (taketext_says rb t k 0 _ HRS.out HT.out).mono ?_
            rintro e w' ⟨rfl, rfl⟩
            go_wp2_with fail
            have b1 : (0 : Int) ≤ (k : Int) + 1 := by omega
            have b2 : (k : Int) + 1 ≤ (k : Int) + 1 + 4 := by omega
            have b3 : (k : Int) + 1 + 4 ≤ (s.size : Int) := by omega
            have b4 : (k : Int) + 1 ≤ (s.size : Int) := by omega
            have b5 : (0 : Int) ≤ (k : Int) + 1 + 4 := by omega
            have e1 : IntKind.i64.wrap ((k : Int) + 1 + 4) = (k : Int) + 1 + 4 := IntWalk.i64_in _ (by omega)
            have e2 : ((k : Int) + 1).toNat = k + 1 := by omega
            have e3 : ((k : Int) + 1 + 4).toNat = k + 1 + 4 := by omega
            go_region_held3 (fun _ => True) (trivial) (first | (go_at_call 106; refine (sumof_cell _ _ _ (cell_drew_row _ _ _) (by rw [HUB.out]; have := HUS.out; unfold maxLen; omega)).mono ?_; rintro e w2 ⟨rfl, rfl⟩; rw [HUB.out, HUD.out]) | (go_at_call 105; refine (tail_any _ _ HAL.out).mono ?_; rintro e w2 ⟨rfl, hb2⟩))
            clear b1 b2 b3 b4 b5 e1 e2 e3
            go_wp2_with fail
            exact bodyPost_ret (v := .tuple #[.int .u8 0, .string ⟨#[]⟩, .int .i64 0, .int .i64 40]) (by simp [results, Try.results103, go_sem]) rfl (takef_says (c := 0) (n := 0) HF.out data_empty (bel_trans (bel_trans (bel_alloc _ _) (bel_drew _)) hb2))
      · have hxb : (x != 0) = true := by simpa using hx
        have HF := Lib.hid (c2 hc hx)
        clear c1 c2 c3 c4 c5 hs hc h0 hrb htk hx
        go_enter Try.func103, Try.ntmps103
        go_wp2_with fail
        rw [HRB.out]
        refine (taketext_says rb t k x _ HRS.out HT.out).mono ?_
        rintro e w' ⟨rfl, rfl⟩
        go_wp2_with fail
        exact bodyPost_ret (v := .tuple #[.int .u8 0, .string ⟨#[]⟩, .int .i64 0, .int .i64 x]) (by simp [results, Try.results103, go_sem]) rfl (takef_says (c := 0) (n := 0) HF.out data_empty (Below.refl _ _))

end Go.Proofs.Ytllecjhfbojgcaa

/-
  The walks through the statements of layer 4: works, FrameKnown, FramePuts, FrameBack.
-/
namespace Go.Proofs.Ytllecjhfbojgcaa
open Go.RowKit
set_option maxRecDepth 20000

theorem putf_ok (c : UInt8) (s : ByteArray) (w : World) (hc : c.toNat ≠ 0) (hs : s.size ≤ 65536) :
    Calls Try.prog 83 #[.int .u8 c.toNat, .string s] w fun e w' => e = .returned (.tuple #[.string ⟨(Cl.putF c s.data.toList).toArray⟩, .int .i64 0]) ∧ Below w.heap.size w w' :=
  (putf_any c s w (by omega)).mono fun _ _ h => ⟨h.2.2.1 hc (by rw [len_data]; exact hs), h.2.2.2⟩
theorem putf_zero (c : UInt8) (s : ByteArray) (w : World) (hc : c.toNat = 0) (hs : s.size ≤ 140737488351232) :
    Calls Try.prog 83 #[.int .u8 c.toNat, .string s] w fun e w' => e = .returned (.tuple #[.string ⟨#[]⟩, .int .i64 2]) ∧ Below w.heap.size w w' :=
  (putf_any c s w hs).mono fun _ _ h => ⟨h.1 hc, h.2.2.2⟩
theorem putf_long (c : UInt8) (s : ByteArray) (w : World) (hc : c.toNat ≠ 0) (hs : s.size ≤ 140737488351232) (hb : 65536 < s.size) :
    Calls Try.prog 83 #[.int .u8 c.toNat, .string s] w fun e w' => e = .returned (.tuple #[.string ⟨#[]⟩, .int .i64 3]) ∧ Below w.heap.size w w' :=
  (putf_any c s w hs).mono fun _ _ h => ⟨h.2.1 hc (by rw [len_data]; exact hb), h.2.2.2⟩
theorem refputf_ok (c : UInt8) (s : ByteArray) (w : World) (hc : c.toNat ≠ 0) (hs : s.size ≤ 65536) :
    Calls Try.prog 100 #[.int .u8 c.toNat, .string s] w fun e w' => e = .returned (.tuple #[.string ⟨(Cl.putF c s.data.toList).toArray⟩, .int .i64 0]) ∧ Below w.heap.size w w' :=
  (refputf_any c s w (by omega)).mono fun _ _ h => ⟨h.2.2.1 hc (by rw [len_data]; exact hs), h.2.2.2⟩
theorem refputf_zero (c : UInt8) (s : ByteArray) (w : World) (hc : c.toNat = 0) (hs : s.size ≤ 140737488351232) :
    Calls Try.prog 100 #[.int .u8 c.toNat, .string s] w fun e w' => e = .returned (.tuple #[.string ⟨#[]⟩, .int .i64 2]) ∧ Below w.heap.size w w' :=
  (refputf_any c s w hs).mono fun _ _ h => ⟨h.1 hc, h.2.2.2⟩
theorem refputf_long (c : UInt8) (s : ByteArray) (w : World) (hc : c.toNat ≠ 0) (hs : s.size ≤ 140737488351232) (hb : 65536 < s.size) :
    Calls Try.prog 100 #[.int .u8 c.toNat, .string s] w fun e w' => e = .returned (.tuple #[.string ⟨#[]⟩, .int .i64 3]) ∧ Below w.heap.size w w' :=
  (refputf_any c s w hs).mono fun _ _ h => ⟨h.2.1 hc (by rw [len_data]; exact hb), h.2.2.2⟩

theorem takef_tells (s : ByteArray) (c n : Nat) (t : List UInt8) (x : Int) (w : World) (hs : s.size ≤ 5000000) (h : Cl.takeF s.data.toList = (c, t, n, x)) :
    Calls Try.prog 103 #[.string s] w fun e w' => e = .returned (.tuple #[.int .u8 c, .string ⟨t.toArray⟩, .int .i64 n, .int .i64 x]) ∧ Below w.heap.size w w' := by
  refine (takef_any s w hs).mono fun e w' ht => ?_
  unfold TakeFSays at ht
  rw [h] at ht
  exact ht

theorem fk_put : Cl.putF 7 [97, 98, 99] = [7, 6, 97, 98, 99, 52, 1, 138, 2] := by decide +kernel
theorem fk_put1 : Cl.putF 1 [] = [1, 0, 2, 0, 4, 0] := by decide +kernel
theorem fk_take : Cl.takeF [7, 6, 97, 98, 99, 52, 1, 138, 2, 120] = (7, [97, 98, 99], 9, 0) := by decide +kernel
theorem fk_take0 : Cl.takeF [] = (0, [], 0, 20) := by decide +kernel
theorem fk_take1 : Cl.takeF [1, 0] = (0, [], 0, 20) := by decide +kernel


theorem putf_n (n : Int) (c : UInt8) (s : ByteArray) (r : List UInt8) (w : World) (hn : n = (c.toNat : Int)) (hc : c.toNat ≠ 0) (hs : s.size ≤ 65536) (hr : Cl.putF c s.data.toList = r) :
    Calls Try.prog 83 #[.int .u8 n, .string s] w fun e w' => e = .returned (.tuple #[.string ⟨r.toArray⟩, .int .i64 0]) ∧ Below w.heap.size w w' := by
  subst hn; rw [← hr]
  exact putf_ok c s w hc hs

end Go.Proofs.Ytllecjhfbojgcaa
