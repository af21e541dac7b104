/-
  The walks through package bytes.
-/
import Derived.Test.YtllecjhfbojgcaaBytesPlain
import Derived.Test.YtllecjhfbojgcaaBytesConv
import Derived.Test.YtllecjhfbojgcaaSlInts64
import Derived.Lib.Zigzag
import Derived.Laws.DeepNot64
namespace Go.Proofs.Ytllecjhfbojgcaa
open Go.RowKit
set_option maxRecDepth 20000

theorem xor_comm (k : IntKind) (a b : Int) : bits .xor k a b = bits .xor k b a := by
  unfold bits
  simp only [BitVec.xor_comm]

theorem xor_u64_0 (a : Nat) (ha : a < 18446744073709551616) : bits .xor .u64 (a : Int) 0 = (a : Int) := by
  have h := u64_xor_nat a 0 ha (by omega)
  rw [Nat.xor_zero] at h
  exact h

theorem xor_i64_0 (a : Nat) (ha : a < 9223372036854775808) : bits .xor .i64 (a : Int) 0 = (a : Int) := by
  have h1 := i64_not a ha
  have h : (bits .xor .i64 (a : Int) 0) = IntKind.i64.wrap (((BitVec.ofInt 64 (a : Int) ^^^ BitVec.ofInt 64 0).toNat : Nat) : Int) := rfl
  rw [h, show BitVec.ofInt 64 0 = 0#64 from rfl, BitVec.xor_zero, BitVec.toNat_ofInt]
  rw [IntKind.wrap_i64]
  have : (((a : Int) % ((2 ^ 64 : Nat) : Int)).toNat : Int) = (a : Int) := by
    rw [Int.toNat_of_nonneg (by omega)]; omega
  rw [this]
  omega

theorem turned_num (n : Int) (h1 : -(2:Int)^63 ≤ n) (h2 : n ≤ (2:Int)^63-1) :
    bits .xor .u64 (IntKind.u64.wrap (IntKind.u64.wrap n * 2)) (IntKind.u64.wrap (n / 9223372036854775808)) = (Cl.zig n : Int) := by
  by_cases h : n < 0
  · have e1 : IntKind.u64.wrap (IntKind.u64.wrap n * 2) = (((2 * n + 18446744073709551616).toNat : Nat) : Int) := by
      rw [IntKind.wrap_u64, IntKind.wrap_u64]
      omega
    have e2 : IntKind.u64.wrap (n / 9223372036854775808) = ((2 ^ 64 - 1 : Nat) : Int) := by
      rw [show n / 9223372036854775808 = -1 from by omega]; decide
    rw [e1, e2, xor_comm, bits_xor_u64_nat _ _ (by decide) (by omega), Lib.xor_ones64 _ (by omega)]
    unfold Cl.zig
    rw [if_pos h]
    omega
  · obtain ⟨m, rfl⟩ : ∃ m : Nat, n = m := ⟨n.toNat, by omega⟩
    have e1 : IntKind.u64.wrap (IntKind.u64.wrap (m : Int) * 2) = ((m * 2 : Nat) : Int) := by
      rw [IntKind.wrap_u64, IntKind.wrap_u64]
      omega
    have e2 : IntKind.u64.wrap ((m : Int) / 9223372036854775808) = 0 := by
      rw [show (m : Int) / 9223372036854775808 = 0 from by omega]; decide
    rw [e1, e2, xor_u64_0 _ (by omega)]
    unfold Cl.zig
    rw [if_neg (by omega)]
    simp

theorem back_num (u : Nat) (h1 : (u : Int) ≤ (2:Int)^64 - 1) :
    bits .xor .i64 ((u : Int) / 2) (wrap64 (-wrap64 (bits .and .u64 (u : Int) 1))) = Cl.unzig u := by
  rw [Lib.u64_and1 _ (by omega) (by omega)]
  have e0 : ((u : Int) / 2) = ((u / 2 : Nat) : Int) := by omega
  rcases (by omega : u % 2 = 0 ∨ u % 2 = 1) with h | h
  · rw [show (u : Int) % 2 = 0 from by omega, show wrap64 (-wrap64 0) = 0 from by decide +kernel, e0, xor_i64_0 _ (by omega)]
    unfold Cl.unzig
    rw [if_neg (by omega)]
  · rw [show (u : Int) % 2 = 1 from by omega, show wrap64 (-wrap64 1) = -1 from by decide +kernel, e0, xor_comm, i64_not _ (by omega)]
    unfold Cl.unzig
    rw [if_pos h]
    omega

set_option maxHeartbeats 400000 in
theorem turned_any (n : Int) (w : World) (h1 : -(2:Int)^63 ≤ n) (h2 : n ≤ (2:Int)^63-1) :
    Calls Try.prog 86 #[.int .i64 n] w fun e w' => e = .returned (.int .u64 (Cl.zig n)) ∧ w = w' := by
  go_enter Try.func86, Try.ntmps86
  go_wp2
  go_ret
  exact ⟨ret_int (turned_num n h1 h2), rfl⟩

set_option maxHeartbeats 400000 in
theorem back_any (u : Nat) (w : World) (h1 : (u : Int) ≤ (2:Int)^64 - 1) :
    Calls Try.prog 107 #[.int .u64 u] w fun e w' => e = .returned (.int .i64 (Cl.unzig u)) ∧ w = w' := by
  go_enter Try.func107, Try.ntmps107
  go_wp2
  go_ret
  exact ⟨ret_int (back_num u h1), rfl⟩


def bytesV (l : List UInt8) : List Value := l.map fun c => Value.int .u8 (c.toNat : Int)
theorem bytesV_snoc (l : List UInt8) (c : UInt8) : bytesV l ++ [Value.int .u8 (c.toNat : Int)] = bytesV (l ++ [c]) := by simp [bytesV]
theorem bytesV_len (l : List UInt8) : (bytesV l).length = l.length := by simp [bytesV]

theorem infoU8 : (Try.prog.info? 5).map (fun i => (i.zero, i.size, i.bytes)) = some (some (.int .u8 0), 1, 1) := by kernel_rfl

theorem or_u8 (u : Nat) : bits .or .u8 ((u : Int) % 256) 128 = ((UInt8.ofNat (u % 128 + 128)).toNat : Int) := by
  have e : (UInt8.ofNat (u % 128 + 128)).toNat = u % 128 + 128 := by rw [UInt8.toNat_ofNat']; omega
  rw [show ((u : Int) % 256) = ((u % 256 : Nat) : Int) from by omega, show (128 : Int) = ((128 : Nat) : Int) from rfl, u8_or_nat _ _ (by omega) (by omega), e]
  congr 1
  have h := nat_join 7 (u % 256 / 128 * 128) (u % 128) (by omega) (by omega)
  have h2 : u % 256 = u % 256 / 128 * 128 ||| u % 128 := by rw [h]; omega
  have h3 : u % 256 / 128 = 0 ∨ u % 256 / 128 = 1 := by omega
  rw [h2]
  rcases h3 with h3 | h3
  · rw [h3]
    have := nat_join 7 128 (u % 128) (by omega) (by omega)
    rw [Nat.zero_mul, Nat.zero_or, Nat.or_comm, this]; omega
  · rw [h3, Nat.one_mul, Nat.or_comm, ← Nat.or_assoc, Nat.or_self]
    have := nat_join 7 128 (u % 128) (by omega) (by omega)
    rw [this]; omega

theorem u8_mod (u : Nat) (h : u < 128) : ((u : Int) % 256) = ((UInt8.ofNat u).toNat : Int) := by
  have e : (UInt8.ofNat u).toNat = u := by rw [UInt8.toNat_ofNat']; omega
  rw [e]; omega

theorem bytesV_at (l : List UInt8) (j : Nat) (h : j < l.length) : (bytesV l)[j]? = some (.int .u8 (l[j].toNat : Int)) := by simp [bytesV, h]

/-- 'string(b)' of a row of the call's own. -/
theorem string_of_own (w : World) (B : Nat) (v : Value) (l : List UInt8) (hown : w.ownsRow B 5 1 v l.length (bytesV l)) (hl : 0 < l.length) :
    ∃ g cap, v = .slice (some ⟨g, 0, none⟩) l.length cap ∧ (convert 165 9 (.slice (some ⟨g, 0, none⟩) l.length cap)).run Try.prog w = .ok (.string ⟨l.toArray⟩) w := by
  have hc := @World.ownsRow.cells w B 5 1 v l.length (bytesV l) hown
  rcases hown.2 with ⟨_, h0⟩ | ⟨g, cap, cur, h1, _⟩
  · omega
  · subst h1
    refine ⟨g, cap, rfl, ?_⟩
    refine string_of_bytes Try.prog w 165 9 5 g 0 cap l.length l rfl Try.underlying165 Try.underlying5 Try.underlying9 ?_
    intro j hj
    have := hc (g := g) rfl j _ (bytesV_at l j hj)
    rw [addr_add] at this
    exact this

set_option maxHeartbeats 2000000 in
theorem put_nil (a : Option Addr) (c : Nat) (w : World) :
    Calls Try.prog 49 #[.slice a 0 c] w fun e w' => e = .returned (.string ⟨#[]⟩) ∧ w = w' := by
  have hcv := run_convert_bytes_nil (P := Try.prog) w 165 5 Try.underlying165 Try.underlying5
  go_enter Try.func49, Try.ntmps49
  go_wp2_with fail
  go_loop [3, 9] (fun v i => v = .slice none 0 0 ∧ i = .int .i64 0) (fun _ _ => 0)
  case atStart => exact ⟨rfl, rfl⟩
  case round =>
    obtain ⟨rfl, rfl⟩ := hrel
    go_wp2_with fail
    go_ret
    exact ⟨rfl, rfl⟩

set_option maxHeartbeats 2000000 in
theorem put_any (b1 o1 c1 : Nat) (ns : List Int) (w : World) (hlt1 : b1 < w.heap.size) (hc1 : ∀ i x, ns[i]? = some x → w.cell? ⟨b1, o1 + i, none⟩ = some (.int .i64 x)) (h0 : 0 < ns.length) (hn : ns.length ≤ 1000000) (hi : ∀ n ∈ ns, Cl.In64 n) :
    Calls Try.prog 49 #[.slice (some ⟨b1, o1, none⟩) ns.length c1] w fun e w' => e = .returned (.string ⟨(Cl.put ns).toArray⟩) ∧ Below w.heap.size w w' := by
  obtain ⟨i0, hi0, hz0, hz1, hz2⟩ := info_parts infoU8
  have HC := Lib.hid hc1
  clear hc1
  go_enter Try.func49, Try.ntmps49
  go_wp2_with fail
  go_loopw [3, 5, 6, 9] (fun v _ _ i wr => ∃ k : Nat, k ≤ ns.length ∧ i = .int .i64 k ∧ wr.ownsRow w.heap.size 5 1 v (Cl.put (ns.take k)).length (bytesV (Cl.put (ns.take k))) ∧ Below w.heap.size w wr) (fun _ _ _ i _ => ns.length - (intOf i).toNat)
  case atStart => exact ⟨0, by omega, rfl, World.ownsRow_nil _ _ _ _, Below.refl _ _⟩
  case round =>
    obtain ⟨k, hk, rfl, hown, hb⟩ := hrel
    by_cases hlt : k < ns.length
    · obtain ⟨x, hx⟩ : ∃ x, ns[k]? = some x := ⟨ns[k], by simp [hlt]⟩
      have hx64 := hi x (List.mem_of_getElem? hx)
      have hcx2 : wr.cell? ⟨b1, o1 + k, none⟩ = some (.int .i64 x) := (hb.cell (p := ⟨b1, o1 + k, none⟩) hlt1).trans (HC.out k x hx)
      have HX := Lib.hid hx
      have hzl := Cl.zig_lt x hx64.1 hx64.2
      have hpl := Cl.put_len (ns.take k)
      have hpl2 : (ns.take k).length ≤ k := List.length_take_le _ _
      clear hx
      go_wp2_with fail
      refine (turned_any x _ (by have := hx64.1; omega) (by have := hx64.2; omega)).mono ?_
      rintro e w' ⟨rfl, rfl⟩
      obtain ⟨wo, rfl⟩ : ∃ wo : World, wo = wr := ⟨_, rfl⟩
      have HZ := Lib.hid hzl
      have HPL := Lib.hid hpl
      clear hpl
      clear hx64 hzl
      go_wp2_with fail
      go_loopw [3, 6] (fun v u wr => ∃ (l : List UInt8) (m f : Nat), u = .int .u64 m ∧ Hid (m < 128 ^ (f + 1) ∧ f ≤ 9 ∧ l.length + f ≤ 10 * k + 9) ∧ Hid (l ++ Cl.vintF f m = Cl.put (ns.take k) ++ Cl.vint (Cl.zig x)) ∧ wr.ownsRow w.heap.size 5 1 v l.length (bytesV l) ∧ Below w.heap.size w wr) (fun _ u _ => (intOf u).toNat)
      case atStart =>
        refine ⟨Cl.put (ns.take k), Cl.zig x, 9, rfl, Lib.hid ⟨?_, by omega, ?_⟩, Lib.hid rfl, hown, hb⟩
        · have := HZ.out
          rw [show (9 + 1 : Nat) = 10 from rfl, Cl.pow10]; omega
        · have := HPL.out; omega
      case round =>
        obtain ⟨l, m, f, rfl, HM, hcat, hown2, hb2⟩ := hrel
        by_cases hbig : m < 128
        · have hd : decide ((128 : Int) ≤ m) = false := by simp; omega
          have hlen := HM.out.2.2
          have hkn : l.length + 1 ≤ 20000000 := by omega
          clear hown hb hk hpl2 hlen
          have hnext : l ++ [UInt8.ofNat m] = Cl.put (ns.take (k + 1)) := by
            rw [take_snoc_of ns k x HX.out, Cl.put_snoc, ← hcat.out, Cl.vintF_small _ _ hbig]
          have hmu : (UInt8.ofNat m).toNat = m := by rw [UInt8.toNat_ofNat']; omega
          have HN := Lib.hid hnext
          have HMU := Lib.hid hmu
          clear hnext hmu
          go_wp2_with ((at_builtin; refine wpList_append_own _ rfl _ _ 165 rfl w.heap.size 5 i0 (.int .u8 0) 1 1 Try.underlying165 hi0 hz0 hz1 hz2 rfl (by decide) _ _ _ rfl (hown2.alloc _) ⟨wr.heap.size, 0, none⟩ 1 1 [.int .u8 m] rfl rfl ?c1 ?c2 ?c3 ?c4 ?c5 ?_))
          case c1 => exact cell_one_new _ _ _
          case c2 => simp [Value.oneCell']
          case c3 => unfold maxLen; omega
          case c4 => omega
          case c5 => have := hb2.size; simp; omega
          intro v' w' hown' hgr _
          have hb' := below_pushed hb2 hown2 _ hgr
          clear hgr
          go_wp2
          go_roundw
          case rel =>
            refine ⟨k + 1, by omega, by go_num, ?_, hb'⟩
            rw [← HN.out, List.length_append, ← bytesV_snoc, HMU.out]
            exact hown'
          case measure => simp [intOf]; omega
        · have hd : decide ((128 : Int) ≤ m) = true := by simp; omega
          have hlen := HM.out.2.2
          have hkn : l.length + 1 ≤ 20000000 := by omega
          clear hown hb hk hpl2 hlen
          have hor := or_u8 m
          obtain ⟨f', rfl⟩ : ∃ f', f = f' + 1 := by
            cases f with
            | zero => have := HM.out.1; simp at this; omega
            | succ f => exact ⟨f, rfl⟩
          have hnext : (l ++ [UInt8.ofNat (m % 128 + 128)]) ++ Cl.vintF f' (m / 128) = Cl.put (ns.take k) ++ Cl.vint (Cl.zig x) := by
            rw [← hcat.out, Cl.vintF_great _ _ hbig, List.append_assoc]; rfl
          have hm2 : m / 128 < 128 ^ (f' + 1) := by
            have := HM.out.1
            rw [Nat.pow_succ] at this
            exact Nat.div_lt_of_lt_mul (by rw [Nat.mul_comm]; exact this)
          have HN := Lib.hid hnext
          have HM2 := Lib.hid hm2
          clear hnext hm2
          generalize UInt8.ofNat (m % 128 + 128) = c8 at *
          go_wp2_with ((at_builtin; refine wpList_append_own _ rfl _ _ 165 rfl w.heap.size 5 i0 (.int .u8 0) 1 1 Try.underlying165 hi0 hz0 hz1 hz2 rfl (by decide) _ _ _ rfl (hown2.alloc _) ⟨wr.heap.size, 0, none⟩ 1 1 [.int .u8 (c8.toNat : Int)] rfl rfl ?c1 ?c2 ?c3 ?c4 ?c5 ?_))
          case c1 => exact cell_one_new _ _ _
          case c2 => simp [Value.oneCell']
          case c3 => unfold maxLen; omega
          case c4 => omega
          case c5 => have := hb2.size; simp; omega
          intro v' w' hown' hgr _
          have hb' := below_pushed hb2 hown2 _ hgr
          clear hgr
          go_wp2
          go_roundw
          case rel =>
            refine ⟨l ++ [c8], m / 128, f', by go_num, Lib.hid ⟨HM2.out, ?_, ?_⟩, HN, ?_, hb'⟩
            · have := HM.out.2.1; omega
            · have := HM.out.2.2; rw [List.length_append]; simp; omega
            · rw [List.length_append, ← bytesV_snoc]; exact hown'
          case measure => simp [intOf]; omega
    · obtain rfl : k = ns.length := by omega
      rw [List.take_length] at hown
      obtain ⟨g, cap, rfl, hcv⟩ := string_of_own wr w.heap.size _ _ hown (by
        have : 0 < (Cl.put ns).length := by
          cases ns with
          | nil => simp at h0
          | cons n r => rw [Cl.put_cons, List.length_append]; have := (Cl.vint_len (Cl.zig n)).1; omega
        exact this)
      clear hown
      go_wp2_with fail
      go_ret
      exact ⟨rfl, hb⟩

end Go.Proofs.Ytllecjhfbojgcaa
