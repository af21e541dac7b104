/-
  Heavy of the disk's laws, walked.
-/
import Derived.Test.YtllecjhfbojgcaaOnly
import Derived.Test.YtllecjhfbojgcaaArgsDop
import Derived.OwnWalk
import Derived.IntWalk
namespace Go.Proofs.Ytllecjhfbojgcaa
open Go.RowKit
set_option maxRecDepth 20000

set_option maxRecDepth 20000 in
set_option maxHeartbeats 4000000 in
theorem heavy_any (v : Value) (l : List Dop) (w : World) (hr : Reads w v l.length (dopCells l)) (hs : ∀ r ∈ l, r.s.size ≤ maxLen) :
    Calls Try.prog 21 #[v] w fun e w' => (e = .returned (.bool false) ∧ l.length ≤ 300 ∧ Below w.heap.size w w') ∨ (e = .returned (.bool true) ∧ Below w.heap.size w w') := by
  have hlen := hr.lenLe
  unfold maxLen at hlen
  have HR := Lib.hid hr
  have HS := Lib.hid hs
  obtain ⟨a, c, rfl⟩ := hr.shape
  clear hr hs
  obtain ⟨m, hm⟩ : ∃ m, l.length = m := ⟨_, rfl⟩
  have HM := Lib.hid hm
  rw [hm] at hlen
  rw [hm]
  go_enter Try.func21, Try.ntmps21
  go_wp2_with fail
  go_loopw [3, 8] (fun n i wr => ∃ (k q : Nat), k ≤ m ∧ i = .int .i64 (k : Int) ∧ n = .int .i64 (q : Int) ∧ q ≤ 262144 ∧ Hid (Below w.heap.size w wr)) (fun _ i _ => m - (intOf i).toNat)
  case atStart => exact ⟨0, 0, Nat.zero_le _, rfl, rfl, by omega, Lib.hid (Below.refl _ _)⟩
  case round =>
    obtain ⟨k, q, hk, rfl, rfl, hq, HB⟩ := hrel
    by_cases hlt : k < m
    · obtain ⟨x, hx⟩ : ∃ x, l[k]? = some x := ⟨l[k]'(by rw [HM.out]; omega), by simp⟩
      have hkk : (k : Int) < (m : Int) := by omega
      have hrr := HR.out
      obtain ⟨b, o, rfl, hblt, r0, r1, r2, r3, r4⟩ := reads5 hrr k x hx
      have r0 := (World.cell?_of_block (HB.out.block b hblt)).trans r0
      have r1 := (World.cell?_of_block (HB.out.block b hblt)).trans r1
      have r2 := (World.cell?_of_block (HB.out.block b hblt)).trans r2
      have r3 := (World.cell?_of_block (HB.out.block b hblt)).trans r3
      have r4 := (World.cell?_of_block (HB.out.block b hblt)).trans r4
      have hsx := HS.out x (List.mem_of_getElem? hx)
      unfold maxLen at hsx
      clear hrr hx
      obtain ⟨z, hz⟩ : ∃ z, x.s.size = z := ⟨_, rfl⟩
      have HB2 := Lib.hid (bel_trans HB.out (bel_alloc wr (.cells #[.int .i64 x.kind, .int .i64 x.f, .int .i64 x.n, .int .i64 x.m, .string x.s] 51)))
      by_cases hsz : z ≤ 262144
      · have e1 : IntKind.i64.wrap ((q : Int) + (z : Int)) = ((q + z : Nat) : Int) := by rw [IntWalk.i64_in _ (by omega)]; omega
        have m2 : (if (262144 : Int) < (z : Int) then (262144 : Int) else (z : Int)) = (z : Int) := by rw [if_neg (by omega)]
        have m3 : (min (z : Int) 262144) = (z : Int) := by omega
        have m4 : ¬ (262144 : Int) < (z : Int) := by omega
        have m5 : (z : Int) ≤ 262144 := by omega
        by_cases hbig : 262144 < q + z
        · have hd : (262144 : Int) < ((q + z : Nat) : Int) := by omega
          go_wp2_with fail
          go_ret
          exact .inr ⟨rfl, HB2.out⟩
        · have hd : ¬ (262144 : Int) < ((q + z : Nat) : Int) := by omega
          go_wp2_with fail
          go_roundw
          case rel => exact ⟨k + 1, q + z, by omega, by go_num, by go_num, by omega, HB2⟩
          case measure => simp [intOf]; omega
      · obtain ⟨y, hy⟩ : ∃ y : Nat, q + 262144 = y := ⟨_, rfl⟩
        have e1 : IntKind.i64.wrap ((q : Int) + 262144) = (y : Int) := by rw [IntWalk.i64_in _ (by omega)]; omega
        have m2 : (if (262144 : Int) < (z : Int) then (262144 : Int) else (z : Int)) = 262144 := by rw [if_pos (by omega)]
        have m3 : (min (z : Int) 262144) = 262144 := by omega
        have m4 : (262144 : Int) < (z : Int) := by omega
        have m5 : ¬ (z : Int) ≤ 262144 := by omega
        by_cases hbig : 262144 < y
        · have hd : (262144 : Int) < (y : Int) := by omega
          clear hy hbig
          go_wp2_with fail
          go_ret
          exact .inr ⟨rfl, HB2.out⟩
        · have hd : ¬ (262144 : Int) < (y : Int) := by omega
          clear hy
          go_wp2_with fail
          go_roundw
          case rel => exact ⟨k + 1, y, by omega, by go_num, by go_num, by omega, HB2⟩
          case measure => simp [intOf]; omega
    · have hke : k = m := by omega
      subst hke
      have hkk : ¬ (k : Int) < (k : Int) := by omega
      clear hlt
      by_cases h3 : 300 < k
      · have hd : decide ((300 : Int) < (k : Int)) = true := by simp; omega
        have hd2 : (300 : Int) < (k : Int) := by omega
        go_wp2_with fail
        go_ret
        exact .inr ⟨rfl, HB.out⟩
      · have hd : decide ((300 : Int) < (k : Int)) = false := by simp; omega
        have hd2 : ¬ (300 : Int) < (k : Int) := by omega
        go_wp2_with fail
        go_ret
        exact .inl ⟨rfl, by omega, HB.out⟩

end Go.Proofs.Ytllecjhfbojgcaa
