/-
  The walks through the reference of layer 2.
-/
import Derived.Test.YtllecjhfbojgcaaBytesConv
import Derived.Lib.Strings
import Derived.Test.YtllecjhfbojgcaaShelf
namespace Go.Proofs.Ytllecjhfbojgcaa
open Go.RowKit
set_option maxRecDepth 20000

/-- One byte as a string. -/
theorem one_byte (w : World) (x : Int) (c : UInt8) (hx : x = (c.toNat : Int)) :
    (convert 165 9 (.slice (some ⟨w.heap.size, 0, none⟩) 1 1)).run Try.prog (w.alloc (.cells #[.int .u8 x] 5)) = .ok (.string ⟨#[c]⟩) (w.alloc (.cells #[.int .u8 x] 5)) := by
  subst hx
  refine string_of_bytes Try.prog _ 165 9 5 w.heap.size 0 1 1 [c] rfl Try.underlying165 Try.underlying5 Try.underlying9 ?_
  intro j hj
  have hj0 : j = 0 := by simpa using hj
  subst hj0
  exact cell_row w _ _ 0 _ (by simp)

theorem mk_append (a b : List UInt8) : (⟨a.toArray⟩ : ByteArray) ++ ⟨b.toArray⟩ = ⟨(a ++ b).toArray⟩ := by
  apply ByteArray.ext
  simp

set_option maxHeartbeats 5000000 in
theorem one_any (n : Int) (w : World) (h : Cl.In64 n) :
    Calls Try.prog 101 #[.int .i64 n] w fun e w' => e = .returned (.string ⟨(Cl.vint (Cl.zig n)).toArray⟩) ∧ Below w.heap.size w w' := by
  have h1 := h.1
  have h2 := h.2
  by_cases hneg : n < 0
  · obtain ⟨k, rfl⟩ : ∃ k : Nat, n = -(k : Int) - 1 := ⟨(-(n + 1)).toNat, by omega⟩
    have hz : Cl.zig (-(k : Int) - 1) = 2 * k + 1 := by unfold Cl.zig; rw [if_pos (by omega)]; omega
    rw [hz]
    have hk : (k : Int) ≤ (2 : Int) ^ 63 - 1 := by omega
    have hd : decide (-(k : Int) - 1 < 0) = true := by simp; omega
    have e1 : -(k : Int) - 1 + 1 = -(k : Int) := by omega
    clear h1 h2 h hneg hz
    go_enter Try.func101, Try.ntmps101
    go_wp2_with fail
    go_loopw [3, 4] (fun u s wr => ∃ (l : List UInt8) (m f : Nat), u = .int .u64 m ∧ s = .string ⟨l.toArray⟩ ∧ Hid (m < 128 ^ (f + 1) ∧ l.length + f ≤ 9 ∧ m < 18446744073709551616) ∧ Hid (l ++ Cl.vintF f m = Cl.vint (2 * k + 1)) ∧ Below w.heap.size w wr) (fun u _ _ => (intOf u).toNat)
    case atStart =>
      refine ⟨[], 2 * k + 1, 9, by go_num, rfl, Lib.hid ⟨?_, by simp, by omega⟩, Lib.hid rfl, Below.refl _ _⟩
      rw [show (9 + 1 : Nat) = 10 from rfl, Cl.pow10]; omega
    case round =>
      obtain ⟨l, m, f, rfl, rfl, HM, HC, hb⟩ := hrel
      have hl9 : l.length ≤ 9 := by have := HM.out.2.1; omega
      have hm64 : (m : Int) ≤ (2 : Int) ^ 64 - 1 := by have := HM.out.2.2; omega
      by_cases hbig : 127 < m
      · have hd : decide ((127 : Int) < m) = true := by simp; omega
        obtain ⟨f', rfl⟩ : ∃ f', f = f' + 1 := by
          cases f with
          | zero => have := HM.out.1; simp at this; omega
          | succ f => exact ⟨f, rfl⟩
        have hcv := one_byte wr ((m : Int) % 128 + 128) (UInt8.ofNat (m % 128 + 128)) (by rw [UInt8.toNat_ofNat']; omega)
        obtain ⟨c8, hc8⟩ : ∃ c8, UInt8.ofNat (m % 128 + 128) = c8 := ⟨_, rfl⟩
        rw [hc8] at hcv
        have HC8 := Lib.hid hc8
        clear hc8
        go_wp2_with fail
        go_roundw
        case rel =>
          refine ⟨l ++ [c8], m / 128, f', by go_num, ?_, Lib.hid ⟨?_, ?_, ?_⟩, Lib.hid ?_, hb.alloc hb.size _⟩
          · exact congrArg Value.string (mk_append l [c8])
          · have := HM.out.1
            rw [Nat.pow_succ] at this
            exact Nat.div_lt_of_lt_mul (by rw [Nat.mul_comm]; exact this)
          · have := HM.out.2.1; rw [List.length_append]; simp; omega
          · have := HM.out.2.2; omega
          · rw [← HC8.out, ← HC.out, Cl.vintF_great _ _ (by omega), List.append_assoc]; rfl
        case measure => simp [intOf]; omega
      · have hd : decide ((127 : Int) < m) = false := by simp; omega
        have hcv := one_byte wr m (UInt8.ofNat m) (by rw [UInt8.toNat_ofNat']; omega)
        obtain ⟨c8, hc8⟩ : ∃ c8, UInt8.ofNat m = c8 := ⟨_, rfl⟩
        rw [hc8] at hcv
        have HC8 := Lib.hid hc8
        clear hc8
        go_wp2_with fail
        go_ret
        refine ⟨?_, hb.alloc hb.size _⟩
        rw [← HC.out, Cl.vintF_small _ _ (by omega), HC8.out]
        exact congrArg (fun s => Ending.returned (Value.string s)) (mk_append l [c8])
  · obtain ⟨k, rfl⟩ : ∃ k : Nat, n = k := ⟨n.toNat, by omega⟩
    have hz : Cl.zig k = 2 * k := by unfold Cl.zig; rw [if_neg (by omega)]; omega
    rw [hz]
    have hk : (k : Int) ≤ (2 : Int) ^ 63 - 1 := by omega
    clear h1 h2 h hneg hz
    go_enter Try.func101, Try.ntmps101
    go_wp2_with fail
    go_loopw [3, 4] (fun u s wr => ∃ (l : List UInt8) (m f : Nat), u = .int .u64 m ∧ s = .string ⟨l.toArray⟩ ∧ Hid (m < 128 ^ (f + 1) ∧ l.length + f ≤ 9 ∧ m < 18446744073709551616) ∧ Hid (l ++ Cl.vintF f m = Cl.vint (2 * k)) ∧ Below w.heap.size w wr) (fun u _ _ => (intOf u).toNat)
    case atStart =>
      refine ⟨[], 2 * k, 9, by go_num, rfl, Lib.hid ⟨?_, by simp, by omega⟩, Lib.hid rfl, Below.refl _ _⟩
      rw [show (9 + 1 : Nat) = 10 from rfl, Cl.pow10]; omega
    case round =>
      obtain ⟨l, m, f, rfl, rfl, HM, HC, hb⟩ := hrel
      have hl9 : l.length ≤ 9 := by have := HM.out.2.1; omega
      have hm64 : (m : Int) ≤ (2 : Int) ^ 64 - 1 := by have := HM.out.2.2; omega
      by_cases hbig : 127 < m
      · have hd : decide ((127 : Int) < m) = true := by simp; omega
        obtain ⟨f', rfl⟩ : ∃ f', f = f' + 1 := by
          cases f with
          | zero => have := HM.out.1; simp at this; omega
          | succ f => exact ⟨f, rfl⟩
        have hcv := one_byte wr ((m : Int) % 128 + 128) (UInt8.ofNat (m % 128 + 128)) (by rw [UInt8.toNat_ofNat']; omega)
        obtain ⟨c8, hc8⟩ : ∃ c8, UInt8.ofNat (m % 128 + 128) = c8 := ⟨_, rfl⟩
        rw [hc8] at hcv
        have HC8 := Lib.hid hc8
        clear hc8
        go_wp2_with fail
        go_roundw
        case rel =>
          refine ⟨l ++ [c8], m / 128, f', by go_num, ?_, Lib.hid ⟨?_, ?_, ?_⟩, Lib.hid ?_, hb.alloc hb.size _⟩
          · exact congrArg Value.string (mk_append l [c8])
          · have := HM.out.1
            rw [Nat.pow_succ] at this
            exact Nat.div_lt_of_lt_mul (by rw [Nat.mul_comm]; exact this)
          · have := HM.out.2.1; rw [List.length_append]; simp; omega
          · have := HM.out.2.2; omega
          · rw [← HC8.out, ← HC.out, Cl.vintF_great _ _ (by omega), List.append_assoc]; rfl
        case measure => simp [intOf]; omega
      · have hd : decide ((127 : Int) < m) = false := by simp; omega
        have hcv := one_byte wr m (UInt8.ofNat m) (by rw [UInt8.toNat_ofNat']; omega)
        obtain ⟨c8, hc8⟩ : ∃ c8, UInt8.ofNat m = c8 := ⟨_, rfl⟩
        rw [hc8] at hcv
        have HC8 := Lib.hid hc8
        clear hc8
        go_wp2_with fail
        go_ret
        refine ⟨?_, hb.alloc hb.size _⟩
        rw [← HC.out, Cl.vintF_small _ _ (by omega), HC8.out]
        exact congrArg (fun s => Ending.returned (Value.string s)) (mk_append l [c8])


theorem str_at (s : ByteArray) (k : Nat) (h : k < s.size) : s.data.toList[k]? = some s[k] := by
  simp [h]; rfl

set_option maxHeartbeats 5000000 in
theorem refput_any (v : Value) (ns : List Int) (w : World) (hr : Reads w v ns.length (ints ns)) (hn : ns.length ≤ 1000000) (hi : ∀ n ∈ ns, Cl.In64 n) :
    Calls Try.prog 67 #[v] w fun e w' => e = .returned (.string ⟨(Cl.put ns).toArray⟩) ∧ Below w.heap.size w w' := by
  rcases hr with ⟨a, cap, rfl, h0, _⟩ | ⟨b1, o1, c1, rfl, hl, hm, hlt1, hc1⟩
  · have hx0 : ns = [] := List.eq_nil_of_length_eq_zero h0
    subst hx0
    clear hi hn h0
    go_enter Try.func67, Try.ntmps67
    go_wp2_with fail
    go_loop [3, 4] (fun s i => s = .string ⟨#[]⟩ ∧ i = .int .i64 0) (fun _ _ => 0)
    case atStart => exact ⟨rfl, rfl⟩
    case round =>
      obtain ⟨rfl, rfl⟩ := hrel
      go_wp2_with fail
      go_ret
      exact ⟨rfl, Below.refl _ _⟩
  · have HC := Lib.hid hc1
    clear hc1 hm hl
    go_enter Try.func67, Try.ntmps67
    go_wp2_with fail
    go_loopw [3, 4] (fun s i wr => ∃ k : Nat, k ≤ ns.length ∧ i = .int .i64 k ∧ s = .string ⟨(Cl.put (ns.take k)).toArray⟩ ∧ Below w.heap.size w wr) (fun _ i _ => ns.length - (intOf i).toNat)
    case atStart => exact ⟨0, by omega, rfl, rfl, Below.refl _ _⟩
    case round =>
      obtain ⟨k, hk, rfl, rfl, hb⟩ := hrel
      by_cases hlt : k < ns.length
      · obtain ⟨x, hx⟩ : ∃ x, ns[k]? = some x := ⟨ns[k], by simp [hlt]⟩
        have hx64 := hi x (List.mem_of_getElem? hx)
        have hcx2 : wr.cell? ⟨b1, o1 + k, none⟩ = some (.int .i64 x) := (hb.cell (p := ⟨b1, o1 + k, none⟩) hlt1).trans (HC.out k _ (ints_at hx))
        have HX := Lib.hid hx
        have HX64 := Lib.hid hx64
        have hpl : (Cl.put (ns.take k)).length ≤ 10000000 := by
          have h1 := Cl.put_len (ns.take k)
          have h2 : (ns.take k).length ≤ k := List.length_take_le _ _
          omega
        have hvl := (Cl.vint_len (Cl.zig x)).2
        have hpre : Cl.put (ns.take (k + 1)) = Cl.put (ns.take k) ++ Cl.vint (Cl.zig x) := by rw [take_snoc_of ns k x hx, Cl.put_snoc]
        have HP := Lib.hid hpre
        clear hx hx64 hpre
        generalize hq : Cl.put (ns.take k) = q at *
        generalize hy : Cl.vint (Cl.zig x) = y at *
        have HQ := Lib.hid hq
        have HY := Lib.hid hy
        clear hq hy
        go_wp2_with fail
        refine (one_any x _ HX64.out).mono ?_
        rintro e w1 ⟨rfl, hb1⟩
        rw [HY.out]
        go_wp2_with fail
        go_roundw
        case rel =>
          refine ⟨k + 1, by omega, by go_num, ?_, hb.trans (hb1.mono hb.size)⟩
          rw [HP.out]
          exact congrArg Value.string (mk_append q y)
        case measure => simp [intOf]; omega
      · obtain rfl : k = ns.length := by omega
        rw [List.take_length]
        go_wp2_with fail
        go_ret
        exact ⟨rfl, hb⟩

theorem dig_drop (l : List UInt8) (j : Nat) (c : UInt8) (h : l[j]? = some c) : Cl.dig (l.drop j) = c.toNat % 128 + 128 * Cl.dig (l.drop (j + 1)) := by
  have hl : j < l.length := (List.getElem?_eq_some_iff.1 h).1
  rw [List.drop_eq_getElem_cons hl, Cl.dig]
  have : l[j] = c := by
    rw [List.getElem?_eq_getElem hl] at h
    exact Option.some.inj h
  rw [this]

theorem dig_drop_le : ∀ (j : Nat) (l : List UInt8), Cl.dig (l.drop j) ≤ Cl.dig l
  | 0, l => by simp
  | j + 1, [] => by simp
  | j + 1, c :: l => by
    rw [List.drop_succ_cons, Cl.dig]
    have := dig_drop_le j l
    omega

set_option maxHeartbeats 2000000 in
theorem reftake_any (s : ByteArray) (w : World) :
    Calls Try.prog 99 #[.string s] w (TakeSays s.data.toList w) := by
  have hlen : s.data.toList.length = s.size := by simp
  have HL := Lib.hid hlen
  clear hlen
  go_enter Try.func99, Try.ntmps99
  go_wp2_with fail
  go_loop [5] (fun i => ∃ k : Nat, k ≤ s.size ∧ k ≤ 10 ∧ i = .int .i64 k ∧ Hid (k ≤ Cl.lead s.data.toList)) (fun i => s.size - (intOf i).toNat)
  case atStart => exact ⟨0, Nat.zero_le _, by omega, rfl, Lib.hid (by omega)⟩
  case round =>
    obtain ⟨k, hk, hk10, rfl, HR⟩ := hrel
    by_cases hlt : k < s.size
    · have hat := str_at s k hlt
      have hc256 : s[k].toNat < 256 := s[k].toNat_lt
      by_cases h10 : k < 10
      · by_cases hbig : 127 < s[k].toNat
        · have t3 : decide ((127 : Int) < s[k].toNat) = true := by simp; omega
          have hnext := Cl.lead_step _ k _ HR.out hat (by omega)
          have HN := Lib.hid hnext
          clear hnext hat hbig
          go_wp2_with fail
          go_round
          case rel => exact ⟨k + 1, by omega, by omega, by go_num, HN⟩
          case measure => simp [intOf]; omega
        · have t3 : decide ((127 : Int) < s[k].toNat) = false := by simp; omega
          by_cases hI : k = 9 ∧ 1 < s[k].toNat
          · obtain ⟨rfl, h1⟩ := hI
            have hfin := take_ten s.data.toList s[9] HR.out hat h1
            have HF := Lib.hid hfin
            have t4 : decide ((1 : Int) < s[9].toNat) = true := by simp; omega
            clear hfin hat hbig
            go_wp2_with fail
            go_ret3
            unfold TakeSays
            rw [HF.out]
            exact ⟨rfl, rfl⟩
          · have hend := take_end _ k _ HR.out (by omega) hat (by omega) (by omega)
            have hne : ((k : Int) == s.size) = false := by simp; omega
            have HW := Lib.hid (Cl.take_width _ k _ HR.out (by omega) hat (by omega) (by omega))
            by_cases hz : 0 < k ∧ s[k].toNat = 0
            · rw [if_pos hz] at hend
              have HF := Lib.hid hend
              have t5 : ((s[k].toNat : Int) == 0) = true := by simp; omega
              have t7 : decide (0 < (k : Int)) = true := by simp; omega
              have hz0 := hz.2
              have hkp := hz.1
              clear hend hat hz
              by_cases h9 : k = 9
              · subst h9
                have t4 : decide ((1 : Int) < s[9].toNat) = false := by simp; omega
                clear hI hbig hz0
                go_wp2_with fail
                go_ret3
                unfold TakeSays
                rw [HF.out]
                exact ⟨rfl, rfl⟩
              · have t8 : decide ((9 : Int) ≤ k) = false := by simp; omega
                clear hI hbig hz0
                go_wp2_with fail
                go_ret3
                unfold TakeSays
                rw [HF.out]
                exact ⟨rfl, rfl⟩
            · rw [if_neg hz] at hend
              have HF := Lib.hid hend
              clear hend hat
              by_cases h9 : k = 9
              · subst h9
                have t4 : decide ((1 : Int) < s[9].toNat) = false := by simp; omega
                have t5 : ((s[9].toNat : Int) == 0) = false := by simp; omega
                clear hI hbig hz
                go_wp2_with fail
                go_loop [6, 7] (fun u i => ∃ j m : Nat, j ≤ 9 + 1 ∧ i = .int .i64 ((j : Int) - 1) ∧ u = .int .u64 m ∧ Hid (m = Cl.dig ((s.data.toList.take (9 + 1)).drop j))) (fun _ i => (intOf i + 1).toNat)
                case atStart => exact ⟨9 + 1, 0, by omega, by first | rfl | (congr 1; omega) | (congr 1), rfl, Lib.hid (by rw [List.drop_of_length_le (by rw [List.length_take]; omega)]; rfl)⟩
                case round =>
                  obtain ⟨j, m, hj, rfl, rfl, HD⟩ := hrel
                  cases j with
                  | zero =>
                    have hd2 : m = Cl.dig (s.data.toList.take (9 + 1)) := by have := HD.out; simpa using this
                    have hm64 : (m : Int) ≤ (2 : Int) ^ 64 - 1 := by have := HW.out; rw [← hd2] at this; omega
                    have HD2 := Lib.hid hd2
                    clear hd2
                    have hu : Cl.unzig m = if m % 2 = 1 then -((m / 2 : Nat) : Int) - 1 else ((m / 2 : Nat) : Int) := rfl
                    by_cases hodd : m % 2 = 1
                    · rw [if_pos hodd] at hu
                      have HU := Lib.hid hu
                      have t6 : ((m : Int) % 2 == 1) = true := by simp; omega
                      clear hu hodd
                      go_wp2_with fail
                      go_ret3
                      unfold TakeSays
                      rw [HF.out, ← HD2.out, HU.out]
                      exact ⟨by simp, rfl⟩
                    · rw [if_neg hodd] at hu
                      have HU := Lib.hid hu
                      have t6 : ((m : Int) % 2 == 1) = false := by simp; omega
                      clear hu hodd
                      go_wp2_with fail
                      go_ret3
                      unfold TakeSays
                      rw [HF.out, ← HD2.out, HU.out]
                      exact ⟨by simp, rfl⟩
                  | succ j =>
                    have hjs : j < s.size := by omega
                    have hjat : (s.data.toList.take (9 + 1))[j]? = some s[j] := by rw [List.getElem?_take_of_lt (by omega)]; exact str_at s j hjs
                    have hdd := dig_drop _ j _ hjat
                    rw [← HD.out] at hdd
                    have hdl := dig_drop_le j (s.data.toList.take (9 + 1))
                    have hdw := HW.out
                    have hm64 : s[j].toNat % 128 + 128 * m ≤ 2 ^ 64 - 1 := by rw [← hdd]; omega
                    have HDD := Lib.hid hdd
                    have hc256j : s[j].toNat < 256 := s[j].toNat_lt
                    clear hdd hdl hdw hjat
                    generalize hcj : s[j] = cj at *
                    have e1 : ((j + 1 : Nat) : Int) - 1 = (j : Int) := by omega
                    rw [e1]
                    go_wp2_with fail
                    go_round
                    case rel => exact ⟨j, s[j].toNat % 128 + 128 * m, by omega, rfl, by rw [hcj]; first | rfl | (congr 1; omega), Lib.hid (by rw [hcj]; exact HDD.out.symm)⟩
                    case measure => first | (simp [intOf]; done) | (simp [intOf]; omega)
              · have t8 : decide ((9 : Int) ≤ k) = false := by simp; omega
                by_cases h0 : k = 0
                · subst h0
                  clear hI hbig hz
                  go_wp2_with fail
                  go_loop [6, 7] (fun u i => ∃ j m : Nat, j ≤ 0 + 1 ∧ i = .int .i64 ((j : Int) - 1) ∧ u = .int .u64 m ∧ Hid (m = Cl.dig ((s.data.toList.take (0 + 1)).drop j))) (fun _ i => (intOf i + 1).toNat)
                  case atStart => exact ⟨0 + 1, 0, by omega, by first | rfl | (congr 1; omega) | (congr 1), rfl, Lib.hid (by rw [List.drop_of_length_le (by rw [List.length_take]; omega)]; rfl)⟩
                  case round =>
                    obtain ⟨j, m, hj, rfl, rfl, HD⟩ := hrel
                    cases j with
                    | zero =>
                      have hd2 : m = Cl.dig (s.data.toList.take (0 + 1)) := by have := HD.out; simpa using this
                      have hm64 : (m : Int) ≤ (2 : Int) ^ 64 - 1 := by have := HW.out; rw [← hd2] at this; omega
                      have HD2 := Lib.hid hd2
                      clear hd2
                      have hu : Cl.unzig m = if m % 2 = 1 then -((m / 2 : Nat) : Int) - 1 else ((m / 2 : Nat) : Int) := rfl
                      by_cases hodd : m % 2 = 1
                      · rw [if_pos hodd] at hu
                        have HU := Lib.hid hu
                        have t6 : ((m : Int) % 2 == 1) = true := by simp; omega
                        clear hu hodd
                        go_wp2_with fail
                        go_ret3
                        unfold TakeSays
                        rw [HF.out, ← HD2.out, HU.out]
                        exact ⟨by simp, rfl⟩
                      · rw [if_neg hodd] at hu
                        have HU := Lib.hid hu
                        have t6 : ((m : Int) % 2 == 1) = false := by simp; omega
                        clear hu hodd
                        go_wp2_with fail
                        go_ret3
                        unfold TakeSays
                        rw [HF.out, ← HD2.out, HU.out]
                        exact ⟨by simp, rfl⟩
                    | succ j =>
                      have hjs : j < s.size := by omega
                      have hjat : (s.data.toList.take (0 + 1))[j]? = some s[j] := by rw [List.getElem?_take_of_lt (by omega)]; exact str_at s j hjs
                      have hdd := dig_drop _ j _ hjat
                      rw [← HD.out] at hdd
                      have hdl := dig_drop_le j (s.data.toList.take (0 + 1))
                      have hdw := HW.out
                      have hm64 : s[j].toNat % 128 + 128 * m ≤ 2 ^ 64 - 1 := by rw [← hdd]; omega
                      have HDD := Lib.hid hdd
                      have hc256j : s[j].toNat < 256 := s[j].toNat_lt
                      clear hdd hdl hdw hjat
                      generalize hcj : s[j] = cj at *
                      have e1 : ((j + 1 : Nat) : Int) - 1 = (j : Int) := by omega
                      rw [e1]
                      go_wp2_with fail
                      go_round
                      case rel => exact ⟨j, s[j].toNat % 128 + 128 * m, by omega, rfl, by rw [hcj]; first | rfl | (congr 1; omega), Lib.hid (by rw [hcj]; exact HDD.out.symm)⟩
                      case measure => first | (simp [intOf]; done) | (simp [intOf]; omega)
                · have t7 : decide (0 < (k : Int)) = true := by simp; omega
                  have t5 : ((s[k].toNat : Int) == 0) = false := by simp; omega
                  clear hI hbig hz
                  go_wp2_with fail
                  go_loop [6, 7] (fun u i => ∃ j m : Nat, j ≤ k + 1 ∧ i = .int .i64 ((j : Int) - 1) ∧ u = .int .u64 m ∧ Hid (m = Cl.dig ((s.data.toList.take (k + 1)).drop j))) (fun _ i => (intOf i + 1).toNat)
                  case atStart => exact ⟨k + 1, 0, by omega, by first | rfl | (congr 1; omega) | (congr 1), rfl, Lib.hid (by rw [List.drop_of_length_le (by rw [List.length_take]; omega)]; rfl)⟩
                  case round =>
                    obtain ⟨j, m, hj, rfl, rfl, HD⟩ := hrel
                    cases j with
                    | zero =>
                      have hd2 : m = Cl.dig (s.data.toList.take (k + 1)) := by have := HD.out; simpa using this
                      have hm64 : (m : Int) ≤ (2 : Int) ^ 64 - 1 := by have := HW.out; rw [← hd2] at this; omega
                      have HD2 := Lib.hid hd2
                      clear hd2
                      have hu : Cl.unzig m = if m % 2 = 1 then -((m / 2 : Nat) : Int) - 1 else ((m / 2 : Nat) : Int) := rfl
                      by_cases hodd : m % 2 = 1
                      · rw [if_pos hodd] at hu
                        have HU := Lib.hid hu
                        have t6 : ((m : Int) % 2 == 1) = true := by simp; omega
                        clear hu hodd
                        go_wp2_with fail
                        go_ret3
                        unfold TakeSays
                        rw [HF.out, ← HD2.out, HU.out]
                        exact ⟨by simp, rfl⟩
                      · rw [if_neg hodd] at hu
                        have HU := Lib.hid hu
                        have t6 : ((m : Int) % 2 == 1) = false := by simp; omega
                        clear hu hodd
                        go_wp2_with fail
                        go_ret3
                        unfold TakeSays
                        rw [HF.out, ← HD2.out, HU.out]
                        exact ⟨by simp, rfl⟩
                    | succ j =>
                      have hjs : j < s.size := by omega
                      have hjat : (s.data.toList.take (k + 1))[j]? = some s[j] := by rw [List.getElem?_take_of_lt (by omega)]; exact str_at s j hjs
                      have hdd := dig_drop _ j _ hjat
                      rw [← HD.out] at hdd
                      have hdl := dig_drop_le j (s.data.toList.take (k + 1))
                      have hdw := HW.out
                      have hm64 : s[j].toNat % 128 + 128 * m ≤ 2 ^ 64 - 1 := by rw [← hdd]; omega
                      have HDD := Lib.hid hdd
                      have hc256j : s[j].toNat < 256 := s[j].toNat_lt
                      clear hdd hdl hdw hjat
                      generalize hcj : s[j] = cj at *
                      have e1 : ((j + 1 : Nat) : Int) - 1 = (j : Int) := by omega
                      rw [e1]
                      go_wp2_with fail
                      go_round
                      case rel => exact ⟨j, s[j].toNat % 128 + 128 * m, by omega, rfl, by rw [hcj]; first | rfl | (congr 1; omega), Lib.hid (by rw [hcj]; exact HDD.out.symm)⟩
                      case measure => first | (simp [intOf]; done) | (simp [intOf]; omega)
      · obtain rfl : k = 10 := by omega
        have h9 : 128 ≤ s[9].toNat := Cl.lead_on _ 9 _ (by have := HR.out; omega) (str_at s 9 (by omega))
        have hfin := take_ten s.data.toList s[9] (by have := HR.out; omega) (str_at s 9 (by omega)) (by omega)
        have HF := Lib.hid hfin
        have t4 : decide ((1 : Int) < s[9].toNat) = true := by simp; omega
        clear hfin hat
        go_wp2_with fail
        go_ret3
        unfold TakeSays
        rw [HF.out]
        exact ⟨rfl, rfl⟩
    · by_cases h9 : k = 10
      · subst h9
        have h9 : 128 ≤ s[9].toNat := Cl.lead_on _ 9 _ (by have := HR.out; omega) (str_at s 9 (by omega))
        have hfin := take_ten s.data.toList s[9] (by have := HR.out; omega) (str_at s 9 (by omega)) (by omega)
        have HF := Lib.hid hfin
        have t4 : decide ((1 : Int) < s[9].toNat) = true := by simp; omega
        clear hfin
        go_wp2_with fail
        go_ret3
        unfold TakeSays
        rw [HF.out]
        exact ⟨rfl, rfl⟩
      · have hfin := take_short s.data.toList k HR.out (by omega) (by rw [HL.out]; omega)
        have HF := Lib.hid hfin
        obtain rfl : k = s.size := by omega
        clear hfin
        go_wp2_with fail
        all_goals
          go_ret3
          unfold TakeSays
          rw [HF.out]
          exact ⟨rfl, rfl⟩

end Go.Proofs.Ytllecjhfbojgcaa

/-
  The walks through bytes.Numbers and its reference.
-/
namespace Go.Proofs.Ytllecjhfbojgcaa
open Go.RowKit
set_option maxRecDepth 20000

theorem take_says (s : ByteArray) (n : Int) (k : Nat) (x : Int) (w : World) (h : Cl.take s.data.toList = (n, k, x)) :
    Calls Try.prog 85 #[.string s] w fun e w' => e = .returned (.tuple #[.int .i64 n, .int .i64 k, .int .i64 x]) ∧ w = w' := by
  refine (take_any s w).mono fun e w' ht => ?_
  unfold TakeSays at ht
  rw [h] at ht
  exact ht

theorem reftake_says (s : ByteArray) (n : Int) (k : Nat) (x : Int) (w : World) (h : Cl.take s.data.toList = (n, k, x)) :
    Calls Try.prog 99 #[.string s] w fun e w' => e = .returned (.tuple #[.int .i64 n, .int .i64 k, .int .i64 x]) ∧ w = w' := by
  refine (reftake_any s w).mono fun e w' ht => ?_
  unfold TakeSays at ht
  rw [h] at ht
  exact ht

def NumsSays (l : List UInt8) (w : World) (e : Ending) (w' : World) : Prop :=
  ∃ v, e = .returned (.tuple #[v, .int .i64 (Cl.nums l).2]) ∧ Reads w' v (Cl.nums l).1.length (ints (Cl.nums l).1) ∧ Below w.heap.size w w'

theorem nums_says {l : List UInt8} {w w' : World} {v : Value} {r : List Int} {x : Int} (h : (r, x) = Cl.nums l) (hr : Reads w' v r.length (ints r)) (hb : Below w.heap.size w w') : NumsSays l w (.returned (.tuple #[v, .int .i64 x])) w' := by
  refine ⟨v, ?_, ?_, hb⟩
  · rw [← h]
  · rw [← h]; exact hr

theorem infoI64 : (Try.prog.info? 2).map (fun i => (i.zero, i.size, i.bytes)) = some (some (.int .i64 0), 1, 8) := by kernel_rfl

theorem data_nil (t : ByteArray) (h : t.size = 0) : t.data.toList = [] := List.eq_nil_of_length_eq_zero (by rw [len_data]; exact h)
theorem data_ne (t : ByteArray) (h : 0 < t.size) : t.data.toList ≠ [] := by
  intro e
  have := len_data t
  rw [e] at this
  simp at this
  omega

theorem drop_data (t : ByteArray) (k : Nat) : (t.extract k t.size).data.toList = t.data.toList.drop k := by
  rw [Lib.extract_data]
  rw [List.take_of_length_le (by simp)]

theorem extract_size (t : ByteArray) (k : Nat) : (t.extract k t.size).size = t.size - k := by
  simp

set_option maxHeartbeats 5000000 in
theorem numbers_any (s : ByteArray) (w : World) (hs : s.size ≤ 5000000) :
    Calls Try.prog 47 #[.string s] w (NumsSays s.data.toList w) := by
  obtain ⟨i0, hi0, hz0, hz1, hz2⟩ := info_parts infoI64
  go_enter Try.func47, Try.ntmps47
  go_wp2_with fail
  go_loopw [0, 4, 5, 6, 7, 10] (fun t v _ _ _ _ wr => ∃ (tb : ByteArray) (acc : List Int) (f : Nat), t = .string tb ∧ tb.size ≤ 5000000 ∧ acc.length + tb.size ≤ 5000000 ∧ Hid (tb.size < f ∧ Cl.numsA f tb.data.toList acc = Cl.nums s.data.toList) ∧ wr.ownsRow w.heap.size 2 1 v acc.length (ints acc) ∧ Below w.heap.size w wr) (fun t _ _ _ _ _ _ => match t with | .string b => b.size | _ => 0)
  case atStart => exact ⟨s, [], s.size + 1, rfl, hs, by simpa using hs, Lib.hid ⟨by omega, by unfold Cl.nums; rw [len_data]⟩, World.ownsRow_nil _ _ _ _, Below.refl _ _⟩
  case round =>
    obtain ⟨tb, acc, f, rfl, htb, hacc, HF, hown, hb⟩ := hrel
    by_cases hemp : tb.size = 0
    · have ht : tb = ⟨#[]⟩ := by
        have := data_nil tb hemp
        cases tb
        simpa using this
      subst ht
      obtain ⟨f', rfl⟩ : ∃ f', f = f' + 1 := ⟨f - 1, by have := HF.out.1; omega⟩
      have hfin : (acc, (0 : Int)) = Cl.nums s.data.toList := by rw [← HF.out.2]; exact (Cl.numsA_nil f' acc).symm
      have HN := Lib.hid hfin
      clear hfin
      go_wp2_with fail
      go_ret2
      exact nums_says HN.out (Reads.own hown) hb
    · obtain ⟨f', rfl⟩ : ∃ f', f = f' + 1 := ⟨f - 1, by have := HF.out.1; omega⟩
      have hne := data_ne tb (by omega)
      obtain ⟨n, k, x, hnk⟩ : ∃ n k x, Cl.take tb.data.toList = (n, k, x) := ⟨_, _, _, rfl⟩
      have HT := Lib.hid hnk
      have hem : (!tb.toList.isEmpty) = true := by rw [Lib.toList_data]; simpa using hne
      have HNE := Lib.hid hne
      clear hne hnk
      go_wp2_with fail
      refine (take_says tb n k x _ HT.out).mono ?_
      rintro e w' ⟨rfl, rfl⟩
      by_cases hx : x = 0
      · subst hx
        obtain ⟨-, hkl, hk1, -, -, -, -, hn1, hn2⟩ := Cl.take_ok _ _ _ HT.out
        rw [len_data] at hkl
        have hstep := Cl.numsA_ok f' tb.data.toList acc HNE.out (by rw [HT.out])
        rw [HT.out] at hstep
        simp only at hstep
        rw [HF.out.2] at hstep
        have HS := Lib.hid hstep
        clear hstep hn1 hn2
        have hacl : acc.length + 1 ≤ 5000000 := by omega
        have HACL := Lib.hid hacl
        have HACC := Lib.hid hacc
        have HTB := Lib.hid htb
        have HK1 := Lib.hid hk1
        have HHS := Lib.hid hs
        have HEMP := Lib.hid hemp
        clear hacl hacc htb hs hk1 hemp
        go_wp2_with ((at_builtin; refine wpList_append_own _ rfl _ _ 102 rfl w.heap.size 2 i0 (.int .i64 0) 1 8 Try.underlying102 hi0 hz0 hz1 hz2 rfl (by decide) _ _ _ rfl (hown.alloc _) ⟨wr.heap.size, 0, none⟩ 1 1 [.int .i64 n] rfl rfl ?c1 ?c2 ?c3 ?c4 ?c5 ?_))
        case c1 => exact cell_one_new _ _ _
        case c2 => simp [Value.oneCell']
        case c3 => have := HACL.out; unfold maxLen; omega
        case c4 => have := HACL.out; omega
        case c5 => have := hb.size; simp; omega
        intro v' w' hown' hgr _
        have hb' := below_pushed hb hown _ hgr
        clear hgr
        have hsz := extract_size tb k
        go_wp2
        go_roundw
        case rel =>
          refine ⟨tb.extract k tb.size, acc ++ [n], f', rfl, by rw [extract_size]; have := HTB.out; omega, by rw [extract_size, List.length_append]; have := HACC.out; have := HK1.out; simp; omega, Lib.hid ⟨?_, ?_⟩, ?_, hb'⟩
          · rw [extract_size]; have := HF.out.1; have := HK1.out; omega
          · rw [drop_data]; exact HS.out.symm
          · rw [List.length_append, ← ints_snoc]; exact hown'
        case measure => have := HK1.out; simp; omega
      · have hxb : (x != 0) = true := by simpa using hx
        have hbad := Cl.numsA_bad f' tb.data.toList acc HNE.out (by rw [HT.out]; exact hx)
        rw [HT.out] at hbad
        rw [HF.out.2] at hbad
        have HN := Lib.hid hbad
        clear hbad hx
        go_wp2_with fail
        go_ret2
        exact nums_says HN.out.symm (Reads.nil _) hb


set_option maxHeartbeats 5000000 in
theorem refnumbers_any (s : ByteArray) (w : World) (hs : s.size ≤ 5000000) :
    Calls Try.prog 64 #[.string s] w (NumsSays s.data.toList w) := by
  obtain ⟨i0, hi0, hz0, hz1, hz2⟩ := info_parts infoI64
  go_enter Try.func64, Try.ntmps64
  go_wp2_with fail
  go_loopw [4, 5, 6, 7, 8, 13] (fun v i _ _ _ _ wr => ∃ (p : Nat) (acc : List Int) (f : Nat), i = .int .i64 p ∧ p ≤ s.size ∧ acc.length ≤ p ∧ Hid (s.size - p < f ∧ Cl.numsA f (s.data.toList.drop p) acc = Cl.nums s.data.toList) ∧ wr.ownsRow w.heap.size 2 1 v acc.length (ints acc) ∧ Below w.heap.size w wr) (fun _ i _ _ _ _ _ => s.size - (intOf i).toNat)
  case atStart => exact ⟨0, [], s.size + 1, rfl, by omega, by simp, Lib.hid ⟨by omega, by unfold Cl.nums; rw [len_data]; rfl⟩, World.ownsRow_nil _ _ _ _, Below.refl _ _⟩
  case round =>
    obtain ⟨p, acc, f, rfl, hp, hacc, HF, hown, hb⟩ := hrel
    obtain ⟨f', rfl⟩ : ∃ f', f = f' + 1 := ⟨f - 1, by have := HF.out.1; omega⟩
    by_cases hemp : p < s.size
    · obtain ⟨tb, htb⟩ : ∃ tb : ByteArray, s.extract p s.size = tb := ⟨_, rfl⟩
      have htd : tb.data.toList = s.data.toList.drop p := by rw [← htb, drop_data]
      have hts : tb.size = s.size - p := by rw [← htb, extract_size]
      have hne := data_ne tb (by omega)
      have hf2 := HF.out
      rw [← htd] at hf2
      obtain ⟨n, k, x, hnk⟩ : ∃ n k x, Cl.take tb.data.toList = (n, k, x) := ⟨_, _, _, rfl⟩
      have HT := Lib.hid hnk
      have HNE := Lib.hid hne
      have HTD := Lib.hid htd
      have HTS := Lib.hid hts
      have HTB := Lib.hid htb
      have HF2 := Lib.hid hf2
      clear hne hnk htd hts htb hf2 HF
      go_wp2_with fail
      rw [HTB.out]
      refine (reftake_says tb n k x _ HT.out).mono ?_
      rintro e w' ⟨rfl, rfl⟩
      by_cases hx : x = 0
      · subst hx
        obtain ⟨-, hkl, hk1, -, -, -, -, hn1, hn2⟩ := Cl.take_ok _ _ _ HT.out
        rw [len_data, HTS.out] at hkl
        have hstep := Cl.numsA_ok f' tb.data.toList acc HNE.out (by rw [HT.out])
        rw [HT.out] at hstep
        simp only at hstep
        rw [HF2.out.2] at hstep
        have HS := Lib.hid hstep
        clear hstep hn1 hn2
        have hpk : p + k ≤ s.size := by omega
        clear hkl
        go_wp2_with ((at_builtin; refine wpList_append_own _ rfl _ _ 102 rfl w.heap.size 2 i0 (.int .i64 0) 1 8 Try.underlying102 hi0 hz0 hz1 hz2 rfl (by decide) _ _ _ rfl (hown.alloc _) ⟨wr.heap.size, 0, none⟩ 1 1 [.int .i64 n] rfl rfl ?c1 ?c2 ?c3 ?c4 ?c5 ?_))
        case c1 => exact cell_one_new _ _ _
        case c2 => simp [Value.oneCell']
        case c3 => unfold maxLen; omega
        case c4 => omega
        case c5 => have := hb.size; simp; omega
        intro v' w' hown' hgr _
        have hb' := below_pushed hb hown _ hgr
        clear hgr
        go_wp2
        go_roundw
        case rel =>
          refine ⟨p + k, acc ++ [n], f', by go_num, hpk, by rw [List.length_append]; simp; omega, Lib.hid ⟨?_, ?_⟩, ?_, hb'⟩
          · have := HF2.out.1; omega
          · rw [← List.drop_drop, ← HTD.out]; exact HS.out.symm
          · rw [List.length_append, ← ints_snoc]; exact hown'
        case measure => simp [intOf]; omega
      · have hxb : (x != 0) = true := by simpa using hx
        have hbad := Cl.numsA_bad f' tb.data.toList acc HNE.out (by rw [HT.out]; exact hx)
        rw [HT.out] at hbad
        rw [HF2.out.2] at hbad
        have HN := Lib.hid hbad
        clear hbad hx
        go_wp2_with fail
        go_ret2
        exact nums_says HN.out.symm (Reads.nil _) hb
    · have hd : s.data.toList.drop p = [] := List.drop_of_length_le (by rw [len_data]; omega)
      have hfin : (acc, (0 : Int)) = Cl.nums s.data.toList := by rw [← HF.out.2, hd]; exact (Cl.numsA_nil f' acc).symm
      have HN := Lib.hid hfin
      clear hfin hd
      go_wp2_with fail
      go_ret2
      exact nums_says HN.out (Reads.own hown) hb

end Go.Proofs.Ytllecjhfbojgcaa

/-
  The walks through TakeText and PutText, and their references; works.
-/
namespace Go.Proofs.Ytllecjhfbojgcaa
open Go.RowKit
set_option maxRecDepth 20000

theorem mk_data (s : ByteArray) : (⟨s.data.toList.toArray⟩ : ByteArray) = s := by
  cases s; simp

theorem data_empty : (⟨#[]⟩ : ByteArray).data.toList = [] := rfl

theorem mk_eq (s : ByteArray) (l : List UInt8) (h : s.data.toList = l) : s = ⟨l.toArray⟩ := by rw [← h, mk_data]

def TextSays (l : List UInt8) (w : World) (e : Ending) (w' : World) : Prop :=
  e = .returned (.tuple #[.string ⟨(Cl.takeText l).1.toArray⟩, .int .i64 ((Cl.takeText l).2.1 : Nat), .int .i64 (Cl.takeText l).2.2]) ∧ w = w'

theorem text_says {l t : List UInt8} {w : World} {tb : ByteArray} {k : Nat} {x : Int} (h : Cl.takeText l = (t, k, x)) (ht : tb.data.toList = t) : TextSays l w (.returned (.tuple #[.string tb, .int .i64 k, .int .i64 x])) w := by
  unfold TextSays
  rw [h, mk_eq tb t ht]
  exact ⟨rfl, rfl⟩

theorem cut_data (s : ByteArray) (a b : Nat) : (s.extract a (a + b)).data.toList = (s.data.toList.drop a).take b := by
  rw [Lib.extract_data, Nat.add_sub_cancel_left]

theorem text_cases (l : List UInt8) (n : Int) (k : Nat) (x : Int) (h : Cl.take l = (n, k, x)) :
    (x ≠ 0 → Cl.takeText l = ([], 0, x)) ∧ (x = 0 → n < 0 → Cl.takeText l = ([], 0, 21)) ∧ (x = 0 → 65536 < n → Cl.takeText l = ([], 0, 3)) ∧
    (x = 0 → 0 ≤ n → n ≤ 65536 → (l.length : Int) - k < n → Cl.takeText l = ([], 0, 20)) ∧ (x = 0 → 0 ≤ n → n ≤ 65536 → n ≤ (l.length : Int) - k → Cl.takeText l = ((l.drop k).take n.toNat, k + n.toNat, 0)) := by
  unfold Cl.takeText
  rw [h]
  refine ⟨fun h1 => ?_, fun h1 h2 => ?_, fun h1 h2 => ?_, fun h1 h2 h3 h4 => ?_, fun h1 h2 h3 h4 => ?_⟩
  · rw [if_pos h1]
  · rw [if_neg (by simp only; omega), if_pos h2]
  · rw [if_neg (by simp only; omega), if_neg (by simp only; omega), if_pos h2]
  · rw [if_neg (by simp only; omega), if_neg (by simp only; omega), if_neg (by simp only; omega), if_pos h4]
  · rw [if_neg (by simp only; omega), if_neg (by simp only; omega), if_neg (by simp only; omega), if_neg (by simp only; omega)]

set_option maxHeartbeats 5000000 in
theorem taketext_any (s : ByteArray) (w : World) (hs : s.size ≤ 5000000) :
    Calls Try.prog 115 #[.string s] w (TextSays s.data.toList w) := by
  obtain ⟨n, k, x, hnk⟩ : ∃ n k x, Cl.take s.data.toList = (n, k, x) := ⟨_, _, _, rfl⟩
  obtain ⟨c1, c2, c3, c4, c5⟩ := text_cases _ n k x hnk
  rw [len_data] at c4 c5
  have HT := Lib.hid hnk
  by_cases hx : x = 0
  · subst hx
    obtain ⟨-, hkl, hk1, -, -, -, -, -, -⟩ := Cl.take_ok _ _ _ hnk
    rw [len_data] at hkl
    clear hnk c1
    by_cases hneg : n < 0
    · have HF := Lib.hid (c2 rfl hneg)
      clear c2 c3 c4 c5
      go_enter Try.func115, Try.ntmps115
      go_wp2_with fail
      refine (take_says s n k 0 _ HT.out).mono ?_
      rintro e w' ⟨rfl, rfl⟩
      go_wp2_with fail
      go_ret3
      exact text_says HF.out data_empty
    · by_cases hbig : 65536 < n
      · have HF := Lib.hid (c3 rfl hbig)
        clear c2 c3 c4 c5
        go_enter Try.func115, Try.ntmps115
        go_wp2_with fail
        refine (take_says s n k 0 _ HT.out).mono ?_
        rintro e w' ⟨rfl, rfl⟩
        go_wp2_with fail
        go_ret3
        exact text_says HF.out data_empty
      · by_cases hsh : (s.size : Int) - k < n
        · have HF := Lib.hid (c4 rfl (by omega) (by omega) hsh)
          clear c2 c3 c4 c5
          go_enter Try.func115, Try.ntmps115
          go_wp2_with fail
          refine (take_says s n k 0 _ HT.out).mono ?_
          rintro e w' ⟨rfl, rfl⟩
          go_wp2_with fail
          go_ret3
          exact text_says HF.out data_empty
        · have HF := Lib.hid (c5 rfl (by omega) (by omega) (by omega))
          obtain ⟨m, rfl⟩ : ∃ m : Nat, n = m := ⟨n.toNat, by omega⟩
          clear c2 c3 c4 c5
          go_enter Try.func115, Try.ntmps115
          go_wp2_with fail
          refine (take_says s m k 0 _ HT.out).mono ?_
          rintro e w' ⟨rfl, rfl⟩
          go_wp2_with fail
          go_ret3
          exact text_says (k := k + m) HF.out (cut_data s k m)
  · have HF := Lib.hid (c1 hx)
    have hxb : (x != 0) = true := by simpa using hx
    clear c1 c2 c3 c4 c5 hnk hx
    go_enter Try.func115, Try.ntmps115
    go_wp2_with fail
    refine (take_says s n k x _ HT.out).mono ?_
    rintro e w' ⟨rfl, rfl⟩
    go_wp2_with fail
    go_ret3
    exact text_says HF.out data_empty


set_option maxHeartbeats 5000000 in
theorem reftaketext_any (s : ByteArray) (w : World) (hs : s.size ≤ 5000000) :
    Calls Try.prog 118 #[.string s] w (TextSays s.data.toList w) := by
  obtain ⟨n, k, x, hnk⟩ : ∃ n k x, Cl.take s.data.toList = (n, k, x) := ⟨_, _, _, rfl⟩
  obtain ⟨c1, c2, c3, c4, c5⟩ := text_cases _ n k x hnk
  rw [len_data] at c4 c5
  have HT := Lib.hid hnk
  by_cases hx : x = 0
  · subst hx
    obtain ⟨-, hkl, hk1, -, -, -, -, -, -⟩ := Cl.take_ok _ _ _ hnk
    rw [len_data] at hkl
    clear hnk c1
    by_cases hneg : n < 0
    · have HF := Lib.hid (c2 rfl hneg)
      clear c2 c3 c4 c5
      go_enter Try.func118, Try.ntmps118
      go_wp2_with fail
      refine (reftake_says s n k 0 _ HT.out).mono ?_
      rintro e w' ⟨rfl, rfl⟩
      go_wp2_with fail
      go_ret3
      exact text_says HF.out data_empty
    · by_cases hbig : 65536 < n
      · have HF := Lib.hid (c3 rfl hbig)
        clear c2 c3 c4 c5
        go_enter Try.func118, Try.ntmps118
        go_wp2_with fail
        refine (reftake_says s n k 0 _ HT.out).mono ?_
        rintro e w' ⟨rfl, rfl⟩
        go_wp2_with fail
        go_ret3
        exact text_says HF.out data_empty
      · obtain ⟨m, rfl⟩ : ∃ m : Nat, n = m := ⟨n.toNat, by omega⟩
        by_cases hsh : (s.size : Int) - k < m
        · have HF := Lib.hid (c4 rfl (by omega) (by omega) hsh)
          have hm2 : s.size < k + m := by omega
          clear c2 c3 c4 c5 hsh
          go_enter Try.func118, Try.ntmps118
          go_wp2_with fail
          refine (reftake_says s m k 0 _ HT.out).mono ?_
          rintro e w' ⟨rfl, rfl⟩
          go_wp2_with fail
          go_ret3
          exact text_says HF.out data_empty
        · have HF := Lib.hid (c5 rfl (by omega) (by omega) (by omega))
          have hm2 : k + m ≤ s.size := by omega
          clear c2 c3 c4 c5 hsh
          go_enter Try.func118, Try.ntmps118
          go_wp2_with fail
          refine (reftake_says s m k 0 _ HT.out).mono ?_
          rintro e w' ⟨rfl, rfl⟩
          go_wp2_with fail
          go_ret3
          exact text_says (k := k + m) HF.out (cut_data s k m)
  · have HF := Lib.hid (c1 hx)
    have hxb : (x != 0) = true := by simpa using hx
    clear c1 c2 c3 c4 c5 hnk hx
    go_enter Try.func118, Try.ntmps118
    go_wp2_with fail
    refine (reftake_says s n k x _ HT.out).mono ?_
    rintro e w' ⟨rfl, rfl⟩
    go_wp2_with fail
    go_ret3
    exact text_says HF.out data_empty

/-- What PutText answers. -/
def PutSays (l : List UInt8) (w : World) (e : Ending) (w' : World) : Prop :=
  (65536 < l.length → e = .returned (.tuple #[.string ⟨#[]⟩, .int .i64 3])) ∧ (l.length ≤ 65536 → e = .returned (.tuple #[.string ⟨(Cl.putText l).toArray⟩, .int .i64 0])) ∧ Below w.heap.size w w'

theorem put_one_any (n : Int) (w : World) (m : Nat) (hm : m = w.heap.size) (hn : Cl.In64 n) :
    Calls Try.prog 49 #[.slice (some ⟨m, 0, none⟩) 1 1] (w.alloc (.cells #[.int .i64 n] 2)) fun e w' => e = .returned (.string ⟨(Cl.vint (Cl.zig n)).toArray⟩) ∧ Below w.heap.size w w' := by
  subst hm
  refine (put_any w.heap.size 0 1 [n] _ (by simp) ?_ (by simp) (by simp) (by simpa using hn)).mono ?_
  · intro i x h
    rw [Nat.zero_add]
    match i, h with
    | 0, h => simp at h; subst h; exact cell_row w _ _ 0 _ (by simp)
    | i + 1, h => simp at h
  · rintro e w' ⟨rfl, hb⟩
    exact ⟨by rw [Cl.put_one], bel_trans (bel_alloc _ _) hb⟩

theorem join_two (x y : ByteArray) (w : World) (m : Nat) (hm : m = w.heap.size) (hl : x.size + y.size ≤ 140737488355328) :
    Calls Try.prog 116 #[.slice (some ⟨m, 0, none⟩) 2 2, .string ⟨#[]⟩] (w.alloc (.cells #[.string x, .string y] 9)) fun e w' => e = .returned (.string ⟨(x.data.toList ++ y.data.toList).toArray⟩) ∧ Below w.heap.size w w' := by
  subst hm
  have hj : Lib.join ([x, y].map (·.data.toList)) (⟨#[]⟩ : ByteArray).data.toList = x.data.toList ++ y.data.toList := by
    rw [data_empty]
    simp [Lib.join, List.intercalate]
  refine (Try.strings_Join w.heap.size 0 2 [x, y] ⟨#[]⟩ _ ?_ (by simp) (by simp) (by simp) (by rw [hj, List.length_append, len_data, len_data]; exact hl)).mono ?_
  · intro i s h
    rw [Nat.zero_add]
    match i, h with
    | 0, h => simp at h; subst h; exact cell_row w _ _ 0 _ (by simp)
    | 1, h => simp at h; subst h; exact cell_row w _ _ 1 _ (by simp)
    | i + 2, h => simp at h
  · rintro e w' ⟨rfl, hb⟩
    exact ⟨by rw [hj], bel_trans (bel_alloc _ _) hb⟩

set_option maxHeartbeats 5000000 in
theorem puttext_any (s : ByteArray) (w : World) (hs : s.size ≤ 140737488351232) :
    Calls Try.prog 104 #[.string s] w (PutSays s.data.toList w) := by
  by_cases hbig : 65536 < s.size
  · have hd : decide ((65536 : Int) < s.size) = true := by simp; omega
    have HB := Lib.hid hbig
    clear hbig hs
    go_enter Try.func104, Try.ntmps104
    go_wp2_with fail
    go_ret2
    exact ⟨fun _ => rfl, fun h => absurd h (by rw [len_data]; have := HB.out; omega), Below.refl _ _⟩
  · have hd : decide ((65536 : Int) < s.size) = false := by simp; omega
    have hsz : s.size ≤ 65536 := by omega
    have hvl := Cl.vint_len (Cl.zig s.size)
    have HS := Lib.hid hsz
    have HV := Lib.hid hvl
    clear hbig hs hsz hvl
    go_enter Try.func104, Try.ntmps104
    go_wp2_with fail
    refine (put_one_any s.size w _ rfl (by have := HS.out; constructor <;> omega)).mono ?_
    rintro e w1 ⟨rfl, hb1⟩
    go_wp2_with fail
    refine (join_two _ s _ _ rfl (by have := HS.out; have := HV.out; rw [size_mk]; omega)).mono ?_
    rintro e w2 ⟨rfl, hb2⟩
    go_wp2_with fail
    go_ret2
    refine ⟨fun h => absurd h (by rw [len_data]; have := HS.out; omega), fun _ => ?_, bel_trans hb1 hb2⟩
    unfold Cl.putText
    rw [len_data]
    rfl

set_option maxHeartbeats 5000000 in
theorem refputtext_any (s : ByteArray) (w : World) (hs : s.size ≤ 140737488351232) :
    Calls Try.prog 112 #[.string s] w (PutSays s.data.toList w) := by
  by_cases hbig : 65536 < s.size
  · have hd : decide ((65536 : Int) < s.size) = true := by simp; omega
    have HB := Lib.hid hbig
    clear hbig hs
    go_enter Try.func112, Try.ntmps112
    go_wp2_with fail
    go_ret2
    exact ⟨fun _ => rfl, fun h => absurd h (by rw [len_data]; have := HB.out; omega), Below.refl _ _⟩
  · have hd : decide ((65536 : Int) < s.size) = false := by simp; omega
    have hsz : s.size ≤ 65536 := by omega
    have hvl := (Cl.vint_len (Cl.zig s.size)).2
    have hin : Cl.In64 (s.size : Int) := by constructor <;> omega
    have HI := Lib.hid hin
    clear hbig hs hin
    generalize hy : Cl.vint (Cl.zig s.size) = y at *
    have HY := Lib.hid hy
    clear hy
    go_enter Try.func112, Try.ntmps112
    go_wp2_with fail
    refine (one_any s.size w HI.out).mono ?_
    rintro e w1 ⟨rfl, hb1⟩
    rw [HY.out]
    go_wp2_with fail
    go_ret2
    refine ⟨fun h => absurd h (by rw [len_data]; omega), fun _ => ?_, hb1⟩
    unfold Cl.putText
    rw [len_data, HY.out]
    have e : (⟨y.toArray⟩ : ByteArray) ++ s = ⟨(y ++ s.data.toList).toArray⟩ := by
      have := mk_append y s.data.toList
      rw [mk_data] at this
      exact this
    rw [← e]
    rfl

end Go.Proofs.Ytllecjhfbojgcaa

/-
  The walks through the statements of layer 2.
-/
namespace Go.Proofs.Ytllecjhfbojgcaa
open Go.RowKit
set_option maxRecDepth 20000

theorem putR_any (v : Value) (ns : List Int) (w : World) (hr : Reads w v ns.length (ints ns)) (hn : ns.length ≤ 1000000) (hi : ∀ n ∈ ns, Cl.In64 n) :
    Calls Try.prog 49 #[v] w fun e w' => e = .returned (.string ⟨(Cl.put ns).toArray⟩) ∧ Below w.heap.size w w' := by
  by_cases h0 : ns.length = 0
  · have hx0 : ns = [] := List.eq_nil_of_length_eq_zero h0
    subst hx0
    obtain ⟨a, c, rfl⟩ := hr.shape
    exact (put_nil a c w).mono fun e w' ⟨h1, h2⟩ => ⟨h1, by rw [← h2]; exact Below.refl _ _⟩
  · obtain ⟨b, off, cap, rfl, _, _, hlt, hc⟩ := hr.some (by omega)
    exact put_any b off cap ns w hlt (ints_cell hc) (by omega) hn hi

theorem numbers_says (s : ByteArray) (r : List Int) (x : Int) (w : World) (hs : s.size ≤ 5000000) (h : Cl.nums s.data.toList = (r, x)) :
    Calls Try.prog 47 #[.string s] w fun e w' => ∃ v, e = .returned (.tuple #[v, .int .i64 x]) ∧ Reads w' v r.length (ints r) ∧ Below w.heap.size w w' := by
  refine (numbers_any s w hs).mono fun e w' ⟨v, h1, h2, h3⟩ => ⟨v, ?_, ?_, h3⟩
  · rw [h1, h]
  · rw [h] at h2; exact h2

theorem refnumbers_says (s : ByteArray) (r : List Int) (x : Int) (w : World) (hs : s.size ≤ 5000000) (h : Cl.nums s.data.toList = (r, x)) :
    Calls Try.prog 64 #[.string s] w fun e w' => ∃ v, e = .returned (.tuple #[v, .int .i64 x]) ∧ Reads w' v r.length (ints r) ∧ Below w.heap.size w w' := by
  refine (refnumbers_any s w hs).mono fun e w' ⟨v, h1, h2, h3⟩ => ⟨v, ?_, ?_, h3⟩
  · rw [h1, h]
  · rw [h] at h2; exact h2

theorem nums_w : Cl.nums [1, 128, 1] = ([-1, 64], 0) := by decide
theorem put_w : Cl.put [-1, 64] = [1, 128, 1] := by decide

end Go.Proofs.Ytllecjhfbojgcaa
