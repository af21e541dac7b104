/-
  all and Heavy of the disk's laws, walked.
-/
import Derived.Test.YtdnjmihalmhddaaDiskKeep
import Derived.Test.YtdnjmihalmhddaaArgsDop
import Derived.Test.YtdnjmihalmhddaaArgs
import Derived.OwnWalk
namespace Go.Proofs.Ytdnjmihalmhddaa
open Go.RowKit

theorem infoStr : (Try.prog.info? 9).map (fun i => (i.zero, i.size, i.bytes)) = some (some (.string ⟨#[]⟩), 1, 16) := by kernel_rfl

/-- The files of a disk that is on. -/
theorem read_on {D : Dk.St} (h : D.off = false) (k : Nat) (hk : k < 16) : Dk.read D k = (Dk.at' D.now k, 0) := by
  have hr : Dk.ready D [(k : Int)] = 0 := by
    unfold Dk.ready Dk.argE
    rw [h, if_neg (by simp), if_pos (by simp [Dk.isF]; omega)]
  unfold Dk.read
  rw [hr, if_neg (by simp), Int.toNat_natCast]

set_option maxHeartbeats 4000000 in
theorem disk_all (w : World) (d : Nat) (D : Dk.St) (F : Nat → Prop) (h : DiskAt w d D F) (hon : D.off = false) :
    Calls Try.prog 26 #[ptr d 0] w fun e w' => ∃ g cap, e = .returned (.slice (some ⟨g, 0, none⟩) 16 cap) ∧ w'.ownsRow w.heap.size 9 1 (.slice (some ⟨g, 0, none⟩) 16 cap) 16 (strV D.now) ∧ Below w.heap.size w w' := by
  obtain ⟨i0, hi0, hz0, hz1, hz2⟩ := info_parts infoStr
  have hl := h.ok.nowL
  have H := Lib.hid h
  have HL := Lib.hid hl
  clear h hl
  unfold ptr
  go_enter Try.func26, Try.ntmps26
  go_wp2_with fail
  go_loopw [3, 7] (fun out i wr => ∃ k : Nat, k ≤ 16 ∧ i = .int .i64 (k : Int) ∧ wr.ownsRow w.heap.size 9 1 out k (strV (D.now.take k)) ∧ Below w.heap.size w wr) (fun _ i _ => 16 - (intOf i).toNat)
  case atStart => exact ⟨0, Nat.zero_le _, rfl, World.ownsRow_nil _ _ _ _, Below.refl _ _⟩
  case round =>
    obtain ⟨k, hk, rfl, hown, hbw⟩ := hrel
    by_cases hlt : k < 16
    · have hkk : (k : Int) < 16 := by omega
      have hrd := read_any wr d D F (H.out.below hbw) (k : Int)
      rw [read_on hon k hlt] at hrd
      obtain ⟨s, hs⟩ : ∃ s, Dk.at' D.now k = s := ⟨_, rfl⟩
      rw [hs] at hrd
      have ht : D.now.take (k + 1) = D.now.take k ++ [s] := by
        rw [List.take_add_one, Dk.at_get _ _ (by rw [HL.out]; exact hlt), hs]
        rfl
      have HT := Lib.hid ht
      unfold ptr at hrd
      clear ht hs
      go_wp2_with fail
      refine hrd.mono ?_
      clear hrd
      rintro e w1 ⟨rfl, hb1⟩
      have hown1 := own_below hown hb1
      have hbw1 := bel_trans hbw hb1
      have hsz1 := hbw1.size
      clear hown hbw hb1
      go_wp2_with ((at_builtin; refine wpList_append_own _ rfl _ _ 49 rfl w.heap.size 9 i0 (.string ⟨#[]⟩) 1 16 Try.underlying49 hi0 hz0 hz1 hz2 rfl (by decide) _ _ _ rfl (hown1.alloc _) ⟨w1.heap.size, 0, none⟩ 1 1 [.string s] rfl rfl ?c1 ?c2 ?c3 ?c4 ?c5 ?_))
      case c1 =>
        intro j u hj
        rw [addr_add, Nat.zero_add]
        exact cell_row w1 _ _ j u (by simpa using hj)
      case c2 => simp [Value.oneCell']
      case c3 => unfold maxLen; omega
      case c4 => omega
      case c5 => simp; omega
      intro v' w2 hv2 hg2 _
      have hb2 := below_pushed hbw1 hown1 _ hg2
      clear hg2 hown1 hbw1
      go_wp2_with fail
      go_roundw
      case rel =>
        refine ⟨k + 1, by omega, by go_num, ?_, hb2⟩
        rw [HT.out]
        show World.ownsRow _ _ _ _ _ _ ((D.now.take k ++ [s]).map _)
        rw [List.map_append]
        exact hv2
      case measure => simp [intOf]; omega
    · have hke : k = 16 := by omega
      subst hke
      have hkk : ¬ ((16 : Nat) : Int) < 16 := by omega
      rw [List.take_of_length_le (by rw [HL.out]; omega)] at hown
      obtain ⟨g, cap, hv⟩ : ∃ g cap, u3 = .slice (some ⟨g, 0, none⟩) 16 cap := by
        rcases hown.2 with ⟨-, h0⟩ | ⟨g, cap, cur, hv, _⟩
        · omega
        · exact ⟨g, cap, hv⟩
      subst hv
      clear hlt
      go_wp2_with fail
      go_ret
      exact ⟨g, cap, rfl, hown, hbw⟩

set_option maxRecDepth 20000 in
set_option maxHeartbeats 4000000 in
theorem heavy_any (v : Value) (l : List Dop) (w : World) (hr : Reads w v l.length (dopCells l)) (hs : ∀ r ∈ l, r.s.size ≤ maxLen) :
    Calls Try.prog 21 #[v] w fun e w' => (e = .returned (.bool false) ∧ l.length ≤ 300 ∧ Below w.heap.size w w') ∨ (e = .returned (.bool true) ∧ Below w.heap.size w w') := by
  have hlen := hr.lenLe
  unfold maxLen at hlen
  have HR := Lib.hid hr
  have HS := Lib.hid hs
  obtain ⟨a, c, rfl⟩ := hr.shape
  clear hr hs
  obtain ⟨m, hm⟩ : ∃ m, l.length = m := ⟨_, rfl⟩
  have HM := Lib.hid hm
  rw [hm] at hlen
  rw [hm]
  go_enter Try.func21, Try.ntmps21
  go_wp2_with fail
  go_loopw [3, 8] (fun n i wr => ∃ (k q : Nat), k ≤ m ∧ i = .int .i64 (k : Int) ∧ n = .int .i64 (q : Int) ∧ q ≤ 262144 ∧ Hid (Below w.heap.size w wr)) (fun _ i _ => m - (intOf i).toNat)
  case atStart => exact ⟨0, 0, Nat.zero_le _, rfl, rfl, by omega, Lib.hid (Below.refl _ _)⟩
  case round =>
    obtain ⟨k, q, hk, rfl, rfl, hq, HB⟩ := hrel
    by_cases hlt : k < m
    · obtain ⟨x, hx⟩ : ∃ x, l[k]? = some x := ⟨l[k]'(by rw [HM.out]; omega), by simp⟩
      have hkk : (k : Int) < (m : Int) := by omega
      have hrr := HR.out
      obtain ⟨b, o, rfl, hblt, r0, r1, r2, r3, r4⟩ := reads5 hrr k x hx
      have r0 := (World.cell?_of_block (HB.out.block b hblt)).trans r0
      have r1 := (World.cell?_of_block (HB.out.block b hblt)).trans r1
      have r2 := (World.cell?_of_block (HB.out.block b hblt)).trans r2
      have r3 := (World.cell?_of_block (HB.out.block b hblt)).trans r3
      have r4 := (World.cell?_of_block (HB.out.block b hblt)).trans r4
      have hsx := HS.out x (List.mem_of_getElem? hx)
      unfold maxLen at hsx
      clear hrr hx
      obtain ⟨z, hz⟩ : ∃ z, x.s.size = z := ⟨_, rfl⟩
      have HB2 := Lib.hid (bel_trans HB.out (bel_alloc wr (.cells #[.int .i64 x.kind, .int .i64 x.f, .int .i64 x.n, .int .i64 x.m, .string x.s] 42)))
      by_cases hsz : z ≤ 262144
      · have e1 : IntKind.i64.wrap ((q : Int) + (z : Int)) = ((q + z : Nat) : Int) := by rw [IntWalk.i64_in _ (by omega)]; omega
        have m2 : (if (262144 : Int) < (z : Int) then (262144 : Int) else (z : Int)) = (z : Int) := by rw [if_neg (by omega)]
        have m3 : (min (z : Int) 262144) = (z : Int) := by omega
        have m4 : ¬ (262144 : Int) < (z : Int) := by omega
        have m5 : (z : Int) ≤ 262144 := by omega
        by_cases hbig : 262144 < q + z
        · have hd : (262144 : Int) < ((q + z : Nat) : Int) := by omega
          go_wp2_with fail
          go_ret
          exact .inr ⟨rfl, HB2.out⟩
        · have hd : ¬ (262144 : Int) < ((q + z : Nat) : Int) := by omega
          go_wp2_with fail
          go_roundw
          case rel => exact ⟨k + 1, q + z, by omega, by go_num, by go_num, by omega, HB2⟩
          case measure => simp [intOf]; omega
      · obtain ⟨y, hy⟩ : ∃ y : Nat, q + 262144 = y := ⟨_, rfl⟩
        have e1 : IntKind.i64.wrap ((q : Int) + 262144) = (y : Int) := by rw [IntWalk.i64_in _ (by omega)]; omega
        have m2 : (if (262144 : Int) < (z : Int) then (262144 : Int) else (z : Int)) = 262144 := by rw [if_pos (by omega)]
        have m3 : (min (z : Int) 262144) = 262144 := by omega
        have m4 : (262144 : Int) < (z : Int) := by omega
        have m5 : ¬ (z : Int) ≤ 262144 := by omega
        by_cases hbig : 262144 < y
        · have hd : (262144 : Int) < (y : Int) := by omega
          clear hy hbig
          go_wp2_with fail
          go_ret
          exact .inr ⟨rfl, HB2.out⟩
        · have hd : ¬ (262144 : Int) < (y : Int) := by omega
          clear hy
          go_wp2_with fail
          go_roundw
          case rel => exact ⟨k + 1, y, by omega, by go_num, by go_num, by omega, HB2⟩
          case measure => simp [intOf]; omega
    · have hke : k = m := by omega
      subst hke
      have hkk : ¬ (k : Int) < (k : Int) := by omega
      clear hlt
      by_cases h3 : 300 < k
      · have hd : decide ((300 : Int) < (k : Int)) = true := by simp; omega
        have hd2 : (300 : Int) < (k : Int) := by omega
        go_wp2_with fail
        go_ret
        exact .inr ⟨rfl, HB.out⟩
      · have hd : decide ((300 : Int) < (k : Int)) = false := by simp; omega
        have hd2 : ¬ (300 : Int) < (k : Int) := by omega
        go_wp2_with fail
        go_ret
        exact .inl ⟨rfl, by omega, HB.out⟩

end Go.Proofs.Ytdnjmihalmhddaa
