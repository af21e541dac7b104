/-
  '[]byte(s)' and back, with the world behind it as a variable; small facts on bytes.
-/
import Derived.Test.YtllecjhfbojgcaaProg
import Derived.WalkKit
import Derived.WalkSpells
import Derived.WalkLawsBesides
import Derived.Lib.Hide
import Derived.OpenShut
import Derived.Test.YtllecjhfbojgcaaLib
import Derived.Test.YtllecjhfbojgcaaBytesPlain
import Derived.Lib.Zigzag
import Derived.Laws.DeepNot64
namespace Go.Proofs.Ytllecjhfbojgcaa
open Go.RowKit
set_option maxRecDepth 20000

/-- '[]byte(s)': a new row, whose first cells are the bytes. -/
theorem bytes_of_string (P : Program) (w : World) (src dst e : TypeId) (s : ByteArray) (hs : P.underlying src = some .string) (hd : P.underlying dst = some (.slice e)) (he : P.underlying e = some (.int .u8)) :
    ∃ (c : Nat) (w1 : World), (convert src dst (.string s)).run P w = .ok (.slice (some ⟨w.heap.size, 0, none⟩) s.size c) w1 ∧
      (∀ j (hj : j < s.size), w1.cell? ⟨w.heap.size, j, none⟩ = some (.int .u8 (s[j].toNat : Int))) ∧
      (∀ j, j < s.size → w1.frozen? ⟨w.heap.size, j, none⟩ = false) ∧ Below w.heap.size w w1 ∧ w1.heap.size = w.heap.size + 1 := by
  refine ⟨_, _, run_bytes_of_string (P := P) w src dst e s hs hd he, ?_, ?_, ?_, ?_⟩
  · intro j hj
    have h := World.cell?_alloc_mark w.drew (bytesRow s (grownCap w s.size 0 e)) e ((bytesRow s (grownCap w s.size 0 e)).size, (bytesRow s (grownCap w s.size 0 e)).size + 1) j
    rw [bytesRow_at s _ j (by simpa using hj)] at h
    exact h
  · intro j hj
    have h := World.frozen?_alloc_mark w.drew (bytesRow s (grownCap w s.size 0 e)) e ((bytesRow s (grownCap w s.size 0 e)).size) ((bytesRow s (grownCap w s.size 0 e)).size + 1) j
    refine h.trans ?_
    have hz : s.size ≤ (bytesRow s (grownCap w s.size 0 e)).size := by
      unfold bytesRow
      simp
    simp
    omega
  · exact (Below.refl _ _).drew.alloc (by simp) _
  · simp

/-- 'string(b)' of a row whose cells are bytes. -/
theorem string_of_bytes (P : Program) (w : World) (src dst e : TypeId) (b off cap n : Nat) (l : List UInt8) (hn : n = l.length) (hs : P.underlying src = some (.slice e)) (he : P.underlying e = some (.int .u8)) (hd : P.underlying dst = some .string)
    (hc : ∀ j (hj : j < l.length), w.cell? ⟨b, off + j, none⟩ = some (.int .u8 (l[j].toNat : Int))) :
    (convert src dst (.slice (some ⟨b, off, none⟩) n cap)).run P w = .ok (.string ⟨l.toArray⟩) w := by
  subst hn
  exact run_convert_bytes_back w src dst e ⟨b, off, none⟩ cap l hs he hd (fun j hj => by rw [addr_add]; exact hc j hj)

theorem size_mk (l : List UInt8) : (⟨l.toArray⟩ : ByteArray).size = l.length := List.size_toArray

theorem len_data (s : ByteArray) : s.data.toList.length = s.size := Array.length_toList

theorem xor_u8 (c d : UInt8) : bits .xor .u8 (c.toNat : Int) (d.toNat : Int) = ((c ^^^ d).toNat : Int) := by
  rw [u8_xor_nat _ _ c.toNat_lt d.toNat_lt, UInt8.toNat_xor]

theorem u8_of_int (n : Int) (h : (Lit.int .u8 n).wf = true) : ∃ d : UInt8, n = (d.toNat : Int) := by
  have h2 := bounds_u8 h
  refine ⟨UInt8.ofNat n.toNat, ?_⟩
  rw [UInt8.toNat_ofNat']
  omega

end Go.Proofs.Ytllecjhfbojgcaa

/-
  The walks through slices.Equal, Contains over []int64.
-/
namespace Go.Proofs.Ytllecjhfbojgcaa
open Go.RowKit
set_option maxRecDepth 20000

end Go.Proofs.Ytllecjhfbojgcaa

/-
  The walks through package bytes.
-/
namespace Go.Proofs.Ytllecjhfbojgcaa
open Go.RowKit
set_option maxRecDepth 20000

theorem xor_comm (k : IntKind) (a b : Int) : bits .xor k a b = bits .xor k b a := by
  unfold bits
  simp only [BitVec.xor_comm]

theorem xor_u64_0 (a : Nat) (ha : a < 18446744073709551616) : bits .xor .u64 (a : Int) 0 = (a : Int) := by
  have h := u64_xor_nat a 0 ha (by omega)
  rw [Nat.xor_zero] at h
  exact h

theorem xor_i64_0 (a : Nat) (ha : a < 9223372036854775808) : bits .xor .i64 (a : Int) 0 = (a : Int) := by
  have h1 := i64_not a ha
  have h : (bits .xor .i64 (a : Int) 0) = IntKind.i64.wrap (((BitVec.ofInt 64 (a : Int) ^^^ BitVec.ofInt 64 0).toNat : Nat) : Int) := rfl
  rw [h, show BitVec.ofInt 64 0 = 0#64 from rfl, BitVec.xor_zero, BitVec.toNat_ofInt]
  rw [IntKind.wrap_i64]
  have : (((a : Int) % ((2 ^ 64 : Nat) : Int)).toNat : Int) = (a : Int) := by
    rw [Int.toNat_of_nonneg (by omega)]; omega
  rw [this]
  omega

theorem turned_num (n : Int) (h1 : -(2:Int)^63 ≤ n) (h2 : n ≤ (2:Int)^63-1) :
    bits .xor .u64 (IntKind.u64.wrap (IntKind.u64.wrap n * 2)) (IntKind.u64.wrap (n / 9223372036854775808)) = (Cl.zig n : Int) := by
  by_cases h : n < 0
  · have e1 : IntKind.u64.wrap (IntKind.u64.wrap n * 2) = (((2 * n + 18446744073709551616).toNat : Nat) : Int) := by
      rw [IntKind.wrap_u64, IntKind.wrap_u64]
      omega
    have e2 : IntKind.u64.wrap (n / 9223372036854775808) = ((2 ^ 64 - 1 : Nat) : Int) := by
      rw [show n / 9223372036854775808 = -1 from by omega]; decide
    rw [e1, e2, xor_comm, bits_xor_u64_nat _ _ (by decide) (by omega), Lib.xor_ones64 _ (by omega)]
    unfold Cl.zig
    rw [if_pos h]
    omega
  · obtain ⟨m, rfl⟩ : ∃ m : Nat, n = m := ⟨n.toNat, by omega⟩
    have e1 : IntKind.u64.wrap (IntKind.u64.wrap (m : Int) * 2) = ((m * 2 : Nat) : Int) := by
      rw [IntKind.wrap_u64, IntKind.wrap_u64]
      omega
    have e2 : IntKind.u64.wrap ((m : Int) / 9223372036854775808) = 0 := by
      rw [show (m : Int) / 9223372036854775808 = 0 from by omega]; decide
    rw [e1, e2, xor_u64_0 _ (by omega)]
    unfold Cl.zig
    rw [if_neg (by omega)]
    simp

theorem back_num (u : Nat) (h1 : (u : Int) ≤ (2:Int)^64 - 1) :
    bits .xor .i64 ((u : Int) / 2) (wrap64 (-wrap64 (bits .and .u64 (u : Int) 1))) = Cl.unzig u := by
  rw [Lib.u64_and1 _ (by omega) (by omega)]
  have e0 : ((u : Int) / 2) = ((u / 2 : Nat) : Int) := by omega
  rcases (by omega : u % 2 = 0 ∨ u % 2 = 1) with h | h
  · rw [show (u : Int) % 2 = 0 from by omega, show wrap64 (-wrap64 0) = 0 from by decide +kernel, e0, xor_i64_0 _ (by omega)]
    unfold Cl.unzig
    rw [if_neg (by omega)]
  · rw [show (u : Int) % 2 = 1 from by omega, show wrap64 (-wrap64 1) = -1 from by decide +kernel, e0, xor_comm, i64_not _ (by omega)]
    unfold Cl.unzig
    rw [if_pos h]
    omega

set_option maxHeartbeats 400000 in
theorem turned_any (n : Int) (w : World) (h1 : -(2:Int)^63 ≤ n) (h2 : n ≤ (2:Int)^63-1) :
    Calls Try.prog 86 #[.int .i64 n] w fun e w' => e = .returned (.int .u64 (Cl.zig n)) ∧ w = w' := by
  go_enter Try.func86, Try.ntmps86
  go_wp2
  go_ret
  exact ⟨ret_int (turned_num n h1 h2), rfl⟩

set_option maxHeartbeats 400000 in
theorem back_any (u : Nat) (w : World) (h1 : (u : Int) ≤ (2:Int)^64 - 1) :
    Calls Try.prog 107 #[.int .u64 u] w fun e w' => e = .returned (.int .i64 (Cl.unzig u)) ∧ w = w' := by
  go_enter Try.func107, Try.ntmps107
  go_wp2
  go_ret
  exact ⟨ret_int (back_num u h1), rfl⟩


def bytesV (l : List UInt8) : List Value := l.map fun c => Value.int .u8 (c.toNat : Int)
theorem bytesV_snoc (l : List UInt8) (c : UInt8) : bytesV l ++ [Value.int .u8 (c.toNat : Int)] = bytesV (l ++ [c]) := by simp [bytesV]
theorem bytesV_len (l : List UInt8) : (bytesV l).length = l.length := by simp [bytesV]

theorem infoU8 : (Try.prog.info? 5).map (fun i => (i.zero, i.size, i.bytes)) = some (some (.int .u8 0), 1, 1) := by kernel_rfl

theorem or_u8 (u : Nat) : bits .or .u8 ((u : Int) % 256) 128 = ((UInt8.ofNat (u % 128 + 128)).toNat : Int) := by
  have e : (UInt8.ofNat (u % 128 + 128)).toNat = u % 128 + 128 := by rw [UInt8.toNat_ofNat']; omega
  rw [show ((u : Int) % 256) = ((u % 256 : Nat) : Int) from by omega, show (128 : Int) = ((128 : Nat) : Int) from rfl, u8_or_nat _ _ (by omega) (by omega), e]
  congr 1
  have h := nat_join 7 (u % 256 / 128 * 128) (u % 128) (by omega) (by omega)
  have h2 : u % 256 = u % 256 / 128 * 128 ||| u % 128 := by rw [h]; omega
  have h3 : u % 256 / 128 = 0 ∨ u % 256 / 128 = 1 := by omega
  rw [h2]
  rcases h3 with h3 | h3
  · rw [h3]
    have := nat_join 7 128 (u % 128) (by omega) (by omega)
    rw [Nat.zero_mul, Nat.zero_or, Nat.or_comm, this]; omega
  · rw [h3, Nat.one_mul, Nat.or_comm, ← Nat.or_assoc, Nat.or_self]
    have := nat_join 7 128 (u % 128) (by omega) (by omega)
    rw [this]; omega

theorem u8_mod (u : Nat) (h : u < 128) : ((u : Int) % 256) = ((UInt8.ofNat u).toNat : Int) := by
  have e : (UInt8.ofNat u).toNat = u := by rw [UInt8.toNat_ofNat']; omega
  rw [e]; omega

theorem bytesV_at (l : List UInt8) (j : Nat) (h : j < l.length) : (bytesV l)[j]? = some (.int .u8 (l[j].toNat : Int)) := by simp [bytesV, h]

/-- 'string(b)' of a row of the call's own. -/
theorem string_of_own (w : World) (B : Nat) (v : Value) (l : List UInt8) (hown : w.ownsRow B 5 1 v l.length (bytesV l)) (hl : 0 < l.length) :
    ∃ g cap, v = .slice (some ⟨g, 0, none⟩) l.length cap ∧ (convert 165 9 (.slice (some ⟨g, 0, none⟩) l.length cap)).run Try.prog w = .ok (.string ⟨l.toArray⟩) w := by
  have hc := @World.ownsRow.cells w B 5 1 v l.length (bytesV l) hown
  rcases hown.2 with ⟨_, h0⟩ | ⟨g, cap, cur, h1, _⟩
  · omega
  · subst h1
    refine ⟨g, cap, rfl, ?_⟩
    refine string_of_bytes Try.prog w 165 9 5 g 0 cap l.length l rfl Try.underlying165 Try.underlying5 Try.underlying9 ?_
    intro j hj
    have := hc (g := g) rfl j _ (bytesV_at l j hj)
    rw [addr_add] at this
    exact this

set_option maxHeartbeats 2000000 in
theorem put_nil (a : Option Addr) (c : Nat) (w : World) :
    Calls Try.prog 49 #[.slice a 0 c] w fun e w' => e = .returned (.string ⟨#[]⟩) ∧ w = w' := by
  have hcv := run_convert_bytes_nil (P := Try.prog) w 165 5 Try.underlying165 Try.underlying5
  go_enter Try.func49, Try.ntmps49
  go_wp2_with fail
  go_loop [3, 9] (fun v i => v = .slice none 0 0 ∧ i = .int .i64 0) (fun _ _ => 0)
  case atStart => exact ⟨rfl, rfl⟩
  case round =>
    obtain ⟨rfl, rfl⟩ := hrel
    go_wp2_with fail
    go_ret
    exact ⟨rfl, rfl⟩

set_option maxHeartbeats 2000000 in
theorem put_any (b1 o1 c1 : Nat) (ns : List Int) (w : World) (hlt1 : b1 < w.heap.size) (hc1 : ∀ i x, ns[i]? = some x → w.cell? ⟨b1, o1 + i, none⟩ = some (.int .i64 x)) (h0 : 0 < ns.length) (hn : ns.length ≤ 1000000) (hi : ∀ n ∈ ns, Cl.In64 n) :
    Calls Try.prog 49 #[.slice (some ⟨b1, o1, none⟩) ns.length c1] w fun e w' => e = .returned (.string ⟨(Cl.put ns).toArray⟩) ∧ Below w.heap.size w w' := by
  obtain ⟨i0, hi0, hz0, hz1, hz2⟩ := info_parts infoU8
  have HC := Lib.hid hc1
  clear hc1
  go_enter Try.func49, Try.ntmps49
  go_wp2_with fail
  go_loopw [3, 5, 6, 9] (fun v _ _ i wr => ∃ k : Nat, k ≤ ns.length ∧ i = .int .i64 k ∧ wr.ownsRow w.heap.size 5 1 v (Cl.put (ns.take k)).length (bytesV (Cl.put (ns.take k))) ∧ Below w.heap.size w wr) (fun _ _ _ i _ => ns.length - (intOf i).toNat)
  case atStart => exact ⟨0, by omega, rfl, World.ownsRow_nil _ _ _ _, Below.refl _ _⟩
  case round =>
    obtain ⟨k, hk, rfl, hown, hb⟩ := hrel
    by_cases hlt : k < ns.length
    · obtain ⟨x, hx⟩ : ∃ x, ns[k]? = some x := ⟨ns[k], by simp [hlt]⟩
      have hx64 := hi x (List.mem_of_getElem? hx)
      have hcx2 : wr.cell? ⟨b1, o1 + k, none⟩ = some (.int .i64 x) := (hb.cell (p := ⟨b1, o1 + k, none⟩) hlt1).trans (HC.out k x hx)
      have HX := Lib.hid hx
      have hzl := Cl.zig_lt x hx64.1 hx64.2
      have hpl := Cl.put_len (ns.take k)
      have hpl2 : (ns.take k).length ≤ k := List.length_take_le _ _
      clear hx
      go_wp2_with fail
      refine (turned_any x _ (by have := hx64.1; omega) (by have := hx64.2; omega)).mono ?_
      rintro e w' ⟨rfl, rfl⟩
      obtain ⟨wo, rfl⟩ : ∃ wo : World, wo = wr := ⟨_, rfl⟩
      have HZ := Lib.hid hzl
      have HPL := Lib.hid hpl
      clear hpl
      clear hx64 hzl
      go_wp2_with fail
      go_loopw [3, 6] (fun v u wr => ∃ (l : List UInt8) (m f : Nat), u = .int .u64 m ∧ Hid (m < 128 ^ (f + 1) ∧ f ≤ 9 ∧ l.length + f ≤ 10 * k + 9) ∧ Hid (l ++ Cl.vintF f m = Cl.put (ns.take k) ++ Cl.vint (Cl.zig x)) ∧ wr.ownsRow w.heap.size 5 1 v l.length (bytesV l) ∧ Below w.heap.size w wr) (fun _ u _ => (intOf u).toNat)
      case atStart =>
        refine ⟨Cl.put (ns.take k), Cl.zig x, 9, rfl, Lib.hid ⟨?_, by omega, ?_⟩, Lib.hid rfl, hown, hb⟩
        · have := HZ.out
          rw [show (9 + 1 : Nat) = 10 from rfl, Cl.pow10]; omega
        · have := HPL.out; omega
      case round =>
        obtain ⟨l, m, f, rfl, HM, hcat, hown2, hb2⟩ := hrel
        by_cases hbig : m < 128
        · have hd : decide ((128 : Int) ≤ m) = false := by simp; omega
          have hlen := HM.out.2.2
          have hkn : l.length + 1 ≤ 20000000 := by omega
          clear hown hb hk hpl2 hlen
          have hnext : l ++ [UInt8.ofNat m] = Cl.put (ns.take (k + 1)) := by
            rw [take_snoc_of ns k x HX.out, Cl.put_snoc, ← hcat.out, Cl.vintF_small _ _ hbig]
          have hmu : (UInt8.ofNat m).toNat = m := by rw [UInt8.toNat_ofNat']; omega
          have HN := Lib.hid hnext
          have HMU := Lib.hid hmu
          clear hnext hmu
          go_wp2_with ((at_builtin; refine wpList_append_own _ rfl _ _ 165 rfl w.heap.size 5 i0 (.int .u8 0) 1 1 Try.underlying165 hi0 hz0 hz1 hz2 rfl (by decide) _ _ _ rfl (hown2.alloc _) ⟨wr.heap.size, 0, none⟩ 1 1 [.int .u8 m] rfl rfl ?c1 ?c2 ?c3 ?c4 ?c5 ?_))
          case c1 => exact cell_one_new _ _ _
          case c2 => simp [Value.oneCell']
          case c3 => unfold maxLen; omega
          case c4 => omega
          case c5 => have := hb2.size; simp; omega
          intro v' w' hown' hgr _
          have hb' := below_pushed hb2 hown2 _ hgr
          clear hgr
          go_wp2
          go_roundw
          case rel =>
            refine ⟨k + 1, by omega, by go_num, ?_, hb'⟩
            rw [← HN.out, List.length_append, ← bytesV_snoc, HMU.out]
            exact hown'
          case measure => simp [intOf]; omega
        · have hd : decide ((128 : Int) ≤ m) = true := by simp; omega
          have hlen := HM.out.2.2
          have hkn : l.length + 1 ≤ 20000000 := by omega
          clear hown hb hk hpl2 hlen
          have hor := or_u8 m
          obtain ⟨f', rfl⟩ : ∃ f', f = f' + 1 := by
            cases f with
            | zero => have := HM.out.1; simp at this; omega
            | succ f => exact ⟨f, rfl⟩
          have hnext : (l ++ [UInt8.ofNat (m % 128 + 128)]) ++ Cl.vintF f' (m / 128) = Cl.put (ns.take k) ++ Cl.vint (Cl.zig x) := by
            rw [← hcat.out, Cl.vintF_great _ _ hbig, List.append_assoc]; rfl
          have hm2 : m / 128 < 128 ^ (f' + 1) := by
            have := HM.out.1
            rw [Nat.pow_succ] at this
            exact Nat.div_lt_of_lt_mul (by rw [Nat.mul_comm]; exact this)
          have HN := Lib.hid hnext
          have HM2 := Lib.hid hm2
          clear hnext hm2
          generalize UInt8.ofNat (m % 128 + 128) = c8 at *
          go_wp2_with ((at_builtin; refine wpList_append_own _ rfl _ _ 165 rfl w.heap.size 5 i0 (.int .u8 0) 1 1 Try.underlying165 hi0 hz0 hz1 hz2 rfl (by decide) _ _ _ rfl (hown2.alloc _) ⟨wr.heap.size, 0, none⟩ 1 1 [.int .u8 (c8.toNat : Int)] rfl rfl ?c1 ?c2 ?c3 ?c4 ?c5 ?_))
          case c1 => exact cell_one_new _ _ _
          case c2 => simp [Value.oneCell']
          case c3 => unfold maxLen; omega
          case c4 => omega
          case c5 => have := hb2.size; simp; omega
          intro v' w' hown' hgr _
          have hb' := below_pushed hb2 hown2 _ hgr
          clear hgr
          go_wp2
          go_roundw
          case rel =>
            refine ⟨l ++ [c8], m / 128, f', by go_num, Lib.hid ⟨HM2.out, ?_, ?_⟩, HN, ?_, hb'⟩
            · have := HM.out.2.1; omega
            · have := HM.out.2.2; rw [List.length_append]; simp; omega
            · rw [List.length_append, ← bytesV_snoc]; exact hown'
          case measure => simp [intOf]; omega
    · obtain rfl : k = ns.length := by omega
      rw [List.take_length] at hown
      obtain ⟨g, cap, rfl, hcv⟩ := string_of_own wr w.heap.size _ _ hown (by
        have : 0 < (Cl.put ns).length := by
          cases ns with
          | nil => simp at h0
          | cons n r => rw [Cl.put_cons, List.length_append]; have := (Cl.vint_len (Cl.zig n)).1; omega
        exact this)
      clear hown
      go_wp2_with fail
      go_ret
      exact ⟨rfl, hb⟩

end Go.Proofs.Ytllecjhfbojgcaa

/-
  The walk through bytes.Take.
-/
namespace Go.Proofs.Ytllecjhfbojgcaa
open Go.RowKit
set_option maxRecDepth 20000

def TakeSays (l : List UInt8) (w : World) (e : Ending) (w' : World) : Prop :=
  e = .returned (.tuple #[.int .i64 (Cl.take l).1, .int .i64 ((Cl.take l).2.1 : Nat), .int .i64 (Cl.take l).2.2]) ∧ w = w'

theorem and128 (c : UInt8) : bits .and .u8 (c.toNat : Int) 128 = if c.toNat < 128 then 0 else 128 := by
  have hc := c.toNat_lt
  rw [show (128 : Int) = ((128 : Nat) : Int) from rfl, u8_and_nat _ _ hc (by omega)]
  have h := nat_bit 7 c.toNat
  rw [show (2 : Nat) ^ 7 = 128 from rfl] at h
  rw [h]
  split <;> omega

theorem and128_no (c : UInt8) (h : c.toNat < 128) : (bits .and .u8 (c.toNat : Int) 128 != 0) = false := by
  rw [and128, if_pos h]; rfl
theorem and128_yes (c : UInt8) (h : 128 ≤ c.toNat) : (bits .and .u8 (c.toNat : Int) 128 != 0) = true := by
  rw [and128, if_neg (by omega)]; rfl

theorem andNot128 (c : UInt8) : bits .andNot .u8 (c.toNat : Int) 128 = ((c.toNat % 128 : Nat) : Int) := by
  have hc := c.toNat_lt
  rw [show (128 : Int) = ((128 : Nat) : Int) from rfl, u8_andNot_nat _ _ hc (by omega), show 255 - 128 = 127 from rfl, nat_mask7]

theorem step_num (c : UInt8) (k m q : Nat) (hk : k ≤ 9) (h9 : k = 9 → c.toNat ≤ 1) (hm : m < 128 ^ k) (hq : m + c.toNat % 128 * 128 ^ k = q) :
    bits .or .u64 (m : Int) (IntKind.u64.wrap (IntKind.u64.wrap (bits .andNot .u8 (c.toNat : Int) 128) * 2 ^ (7 * k))) = (q : Int) ∧ q < 18446744073709551616 := by
  have hp : (2 : Nat) ^ (7 * k) = 128 ^ k := by rw [Nat.pow_mul]
  have hpi : (2 : Int) ^ (7 * k) = ((128 ^ k : Nat) : Int) := by rw [← hp]; simp
  have hle : 128 ^ k ≤ 9223372036854775808 := by
    rw [← Cl.pow9]; exact Nat.pow_le_pow_right (by omega) hk
  have hle8 : k ≠ 9 → 128 ^ k ≤ 72057594037927936 := by
    intro h
    have h8 : 128 ^ k ≤ 128 ^ 8 := Nat.pow_le_pow_right (by omega) (by omega)
    rw [show (128 : Nat) ^ 8 = 72057594037927936 from by decide] at h8
    exact h8
  rw [andNot128, hpi]
  have hdiv : (c.toNat % 128 * 128 ^ k) % 2 ^ (7 * k) = 0 := by rw [hp, Nat.mul_mod_left]
  have hm2 : m < 2 ^ (7 * k) := by rw [hp]; exact hm
  generalize 128 ^ k = P at *
  have hb : c.toNat % 128 * P + P ≤ 18446744073709551616 := by
    by_cases h : k = 9
    · have h1 := h9 h
      have h2 : c.toNat % 128 ≤ 1 := by omega
      have := Nat.mul_le_mul_right P h2
      omega
    · have h2 : c.toNat % 128 ≤ 127 := by omega
      have := Nat.mul_le_mul_right P h2
      have := hle8 h
      omega
  have e1 : IntKind.u64.wrap ((c.toNat % 128 : Nat) : Int) = ((c.toNat % 128 : Nat) : Int) := IntWalk.u64_in _ (by omega)
  rw [e1, ← Int.natCast_mul]
  generalize c.toNat % 128 * P = M at *
  rw [IntWalk.u64_in _ (by omega), u64_or_nat _ _ (by omega) (by omega), Nat.or_comm, nat_join (7 * k) _ _ hdiv hm2]
  refine ⟨?_, by omega⟩
  rw [← hq, Nat.add_comm]

/-- The cases of one byte. -/
theorem take_short (l : List UInt8) (k : Nat) (h : k ≤ Cl.lead l) (hk9 : k ≤ 9) (hl : l.length ≤ k) : Cl.take l = (0, 0, 20) := by
  have := Cl.lead_le l
  unfold Cl.take
  rw [if_neg (by omega), if_pos (by omega)]

theorem take_ten (l : List UInt8) (c : UInt8) (h : 9 ≤ Cl.lead l) (hc : l[9]? = some c) (hc1 : 1 < c.toNat) : Cl.take l = (0, 0, 21) := by
  have hl : 9 < l.length := (List.getElem?_eq_some_iff.1 hc).1
  unfold Cl.take
  rw [if_pos ⟨h, hl, by rw [List.getD_eq_getElem?_getD, hc]; exact hc1⟩]

theorem take_end (l : List UInt8) (k : Nat) (c : UInt8) (h : k ≤ Cl.lead l) (hk9 : k ≤ 9) (hc : l[k]? = some c) (h9 : k = 9 → c.toNat ≤ 1) (hlt : c.toNat < 128) :
    Cl.take l = if 0 < k ∧ c.toNat = 0 then (0, 0, 21) else (Cl.unzig (Cl.dig (l.take (k + 1))), k + 1, 0) := by
  have hl : k < l.length := (List.getElem?_eq_some_iff.1 hc).1
  have e := Cl.lead_is l k c h hc hlt
  have hd : (l.getD k 0) = c := by rw [List.getD_eq_getElem?_getD, hc]; rfl
  unfold Cl.take
  rw [e, hd, if_neg, if_neg (by omega)]
  rintro ⟨h1, h2, h3⟩
  have hk : k = 9 := by omega
  subst hk
  rw [hd] at h3
  have := h9 rfl
  omega

set_option maxHeartbeats 1000000 in
theorem take_any (s : ByteArray) (w : World) :
    Calls Try.prog 85 #[.string s] w (TakeSays s.data.toList w) := by
  skip
  have hlen : s.data.toList.length = s.size := by simp
  have HL := Lib.hid hlen
  clear hlen
  go_enter Try.func85, Try.ntmps85
  go_wp2_with fail
  go_step3
  go_wp2_with fail
  go_step3
  go_wp2_with fail
  go_loop [5, 6] (fun u i => ∃ k m : Nat, k ≤ s.size ∧ k ≤ 9 ∧ i = .int .i64 k ∧ u = .int .u64 m ∧ Hid (k ≤ Cl.lead s.data.toList ∧ m = Cl.dig (s.data.toList.take k))) (fun _ i => s.size - (intOf i).toNat)
  case atStart => exact ⟨0, 0, Nat.zero_le _, by omega, rfl, rfl, Lib.hid ⟨by omega, by simp [Cl.dig]⟩⟩
  case round =>
    obtain ⟨k, m, hk, hk9, rfl, rfl, HR⟩ := hrel
    by_cases hlt : k < s.size
    · have hat : s.data.toList[k]? = some s[k] := by simp [hlt]; rfl
      generalize hc : s[k] = c at *
      have hc256 : c.toNat < 256 := c.toNat_lt
      have HC := Lib.hid hc
      have HA := Lib.hid hat
      have hml : m < 128 ^ k := by
        have := Cl.dig_lt (s.data.toList.take k)
        rw [HR.out.2]
        rw [List.length_take, HL.out, Nat.min_eq_left (by omega)] at this
        exact this
      obtain ⟨q, hq⟩ : ∃ q, m + c.toNat % 128 * 128 ^ k = q := ⟨_, rfl⟩
      have hqd : q = Cl.dig (s.data.toList.take (k + 1)) := by
        rw [take_snoc_of _ _ _ hat, Cl.dig_snoc, ← HR.out.2, List.length_take, HL.out, Nat.min_eq_left (by omega), hq]
      have HML := Lib.hid hml
      have HQ := Lib.hid hq
      have HQD := Lib.hid hqd
      clear hat hml hq hqd
      by_cases h9 : k = 9 ∧ 1 < c.toNat
      · have t1 : ((k : Int) == 9) = true := by simp; omega
        have t2 : decide ((1 : Int) < c.toNat) = true := by simp; omega
        have hfin : Cl.take s.data.toList = (0, 0, 21) := by
          obtain ⟨rfl, h1⟩ := h9
          exact take_ten _ c HR.out.1 HA.out h1
        have HF := Lib.hid hfin
        clear hfin h9
        go_wp2_with fail
        go_ret3
        unfold TakeSays
        rw [HF.out]
        exact ⟨rfl, rfl⟩
      · have h91 : k = 9 → c.toNat ≤ 1 := by omega
        obtain ⟨hnum, hq64⟩ := step_num c k m q hk9 h91 HML.out HQ.out
        have HQ64 := Lib.hid hq64
        clear hq64
        by_cases hbig : 128 ≤ c.toNat
        · have t1 : ((k : Int) == 9) = false := by simp; omega
          have t3 := and128_yes c hbig
          have hk8 : k + 1 ≤ 9 := by omega
          have hnext := Cl.lead_step _ k c HR.out.1 HA.out hbig
          have HN := Lib.hid hnext
          clear hnext h9 h91 hbig
          go_wp2_with fail
          go_round
          case rel => exact ⟨k + 1, q, by omega, hk8, by go_num, rfl, Lib.hid ⟨HN.out, HQD.out⟩⟩
          case measure => simp [intOf]; omega
        · have t3 := and128_no c (by omega)
          have hend := take_end _ k c HR.out.1 hk9 HA.out h91 (by omega)
          by_cases hz : 0 < k ∧ c.toNat = 0
          · rw [if_pos hz] at hend
            have HF := Lib.hid hend
            have t4 : ((c.toNat : Int) == 0) = true := by simp; omega
            have t5 : decide ((1 : Int) < (k : Int) + 1) = true := by simp; omega
            clear hend hz h9 hbig
            by_cases hk9' : k = 9
            · have t1 : ((k : Int) == 9) = true := by simp; omega
              have t2 : decide ((1 : Int) < c.toNat) = false := by simp; omega
              clear h91 hk9'
              go_wp2_with fail
              go_ret3
              unfold TakeSays
              rw [HF.out]
              exact ⟨rfl, rfl⟩
            · have t1 : ((k : Int) == 9) = false := by simp; omega
              clear h91 hk9'
              go_wp2_with fail
              go_ret3
              unfold TakeSays
              rw [HF.out]
              exact ⟨rfl, rfl⟩
          · rw [if_neg hz] at hend
            have HF := Lib.hid hend
            clear hend
            by_cases hc0 : c.toNat = 0
            · have t4 : ((c.toNat : Int) == 0) = true := by simp; omega
              have t5 : decide ((1 : Int) < (k : Int) + 1) = false := by simp; omega
              have t1 : ((k : Int) == 9) = false := by simp; omega
              clear h91 hz h9 hbig hc0
              go_wp2_with fail
              refine (back_any q _ (by have := HQ64.out; omega)).mono ?_
              rintro e w' ⟨rfl, rfl⟩
              go_wp2_with fail
              go_ret3
              unfold TakeSays
              rw [HF.out, HQD.out]
              exact ⟨rfl, rfl⟩
            · have t4 : ((c.toNat : Int) == 0) = false := by simp; omega
              clear hz h9 hbig hc0
              by_cases hk9' : k = 9
              · have t1 : ((k : Int) == 9) = true := by simp; omega
                have t2 : decide ((1 : Int) < c.toNat) = false := by simp; omega
                clear h91 hk9'
                go_wp2_with fail
                refine (back_any q _ (by have := HQ64.out; omega)).mono ?_
                rintro e w' ⟨rfl, rfl⟩
                go_wp2_with fail
                go_ret3
                unfold TakeSays
                rw [HF.out, HQD.out]
                exact ⟨rfl, rfl⟩
              · have t1 : ((k : Int) == 9) = false := by simp; omega
                clear h91 hk9'
                go_wp2_with fail
                refine (back_any q _ (by have := HQ64.out; omega)).mono ?_
                rintro e w' ⟨rfl, rfl⟩
                go_wp2_with fail
                go_ret3
                unfold TakeSays
                rw [HF.out, HQD.out]
                exact ⟨rfl, rfl⟩
    · have hfin := take_short s.data.toList k HR.out.1 hk9 (by rw [HL.out]; omega)
      have HF := Lib.hid hfin
      clear hfin
      go_wp2_with fail
      go_ret3
      unfold TakeSays
      rw [HF.out]
      exact ⟨rfl, rfl⟩

end Go.Proofs.Ytllecjhfbojgcaa
