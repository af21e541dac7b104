/-
  The walks through the reference of layer 2.
-/
import Derived.Test.YtllecjhfbojgcaaBytesTake
namespace Go.Proofs.Ytllecjhfbojgcaa
open Go.RowKit
set_option maxRecDepth 20000

/-- One byte as a string. -/
theorem one_byte (w : World) (x : Int) (c : UInt8) (hx : x = (c.toNat : Int)) :
    (convert 165 9 (.slice (some ⟨w.heap.size, 0, none⟩) 1 1)).run Try.prog (w.alloc (.cells #[.int .u8 x] 5)) = .ok (.string ⟨#[c]⟩) (w.alloc (.cells #[.int .u8 x] 5)) := by
  subst hx
  refine string_of_bytes Try.prog _ 165 9 5 w.heap.size 0 1 1 [c] rfl Try.underlying165 Try.underlying5 Try.underlying9 ?_
  intro j hj
  have hj0 : j = 0 := by simpa using hj
  subst hj0
  exact cell_row w _ _ 0 _ (by simp)

theorem mk_append (a b : List UInt8) : (⟨a.toArray⟩ : ByteArray) ++ ⟨b.toArray⟩ = ⟨(a ++ b).toArray⟩ := by
  apply ByteArray.ext
  simp

set_option maxHeartbeats 1000000 in
theorem one_any (n : Int) (w : World) (h : Cl.In64 n) :
    Calls Try.prog 101 #[.int .i64 n] w fun e w' => e = .returned (.string ⟨(Cl.vint (Cl.zig n)).toArray⟩) ∧ Below w.heap.size w w' := by
  have h1 := h.1
  have h2 := h.2
  by_cases hneg : n < 0
  · obtain ⟨k, rfl⟩ : ∃ k : Nat, n = -(k : Int) - 1 := ⟨(-(n + 1)).toNat, by omega⟩
    have hz : Cl.zig (-(k : Int) - 1) = 2 * k + 1 := by unfold Cl.zig; rw [if_pos (by omega)]; omega
    rw [hz]
    have hk : (k : Int) ≤ (2 : Int) ^ 63 - 1 := by omega
    have hd : decide (-(k : Int) - 1 < 0) = true := by simp; omega
    have e1 : -(k : Int) - 1 + 1 = -(k : Int) := by omega
    clear h1 h2 h hneg hz
    go_enter Try.func101, Try.ntmps101
    go_wp2_with fail
    go_loopw [3, 4] (fun u s wr => ∃ (l : List UInt8) (m f : Nat), u = .int .u64 m ∧ s = .string ⟨l.toArray⟩ ∧ Hid (m < 128 ^ (f + 1) ∧ l.length + f ≤ 9 ∧ m < 18446744073709551616) ∧ Hid (l ++ Cl.vintF f m = Cl.vint (2 * k + 1)) ∧ Below w.heap.size w wr) (fun u _ _ => (intOf u).toNat)
    case atStart =>
      refine ⟨[], 2 * k + 1, 9, by go_num, rfl, Lib.hid ⟨?_, by simp, by omega⟩, Lib.hid rfl, Below.refl _ _⟩
      rw [show (9 + 1 : Nat) = 10 from rfl, Cl.pow10]; omega
    case round =>
      obtain ⟨l, m, f, rfl, rfl, HM, HC, hb⟩ := hrel
      have hl9 : l.length ≤ 9 := by have := HM.out.2.1; omega
      have hm64 : (m : Int) ≤ (2 : Int) ^ 64 - 1 := by have := HM.out.2.2; omega
      by_cases hbig : 127 < m
      · have hd : decide ((127 : Int) < m) = true := by simp; omega
        obtain ⟨f', rfl⟩ : ∃ f', f = f' + 1 := by
          cases f with
          | zero => have := HM.out.1; simp at this; omega
          | succ f => exact ⟨f, rfl⟩
        have hcv := one_byte wr ((m : Int) % 128 + 128) (UInt8.ofNat (m % 128 + 128)) (by rw [UInt8.toNat_ofNat']; omega)
        obtain ⟨c8, hc8⟩ : ∃ c8, UInt8.ofNat (m % 128 + 128) = c8 := ⟨_, rfl⟩
        rw [hc8] at hcv
        have HC8 := Lib.hid hc8
        clear hc8
        go_wp2_with fail
        go_roundw
        case rel =>
          refine ⟨l ++ [c8], m / 128, f', by go_num, ?_, Lib.hid ⟨?_, ?_, ?_⟩, Lib.hid ?_, hb.alloc hb.size _⟩
          · exact congrArg Value.string (mk_append l [c8])
          · have := HM.out.1
            rw [Nat.pow_succ] at this
            exact Nat.div_lt_of_lt_mul (by rw [Nat.mul_comm]; exact this)
          · have := HM.out.2.1; rw [List.length_append]; simp; omega
          · have := HM.out.2.2; omega
          · rw [← HC8.out, ← HC.out, Cl.vintF_great _ _ (by omega), List.append_assoc]; rfl
        case measure => simp [intOf]; omega
      · have hd : decide ((127 : Int) < m) = false := by simp; omega
        have hcv := one_byte wr m (UInt8.ofNat m) (by rw [UInt8.toNat_ofNat']; omega)
        obtain ⟨c8, hc8⟩ : ∃ c8, UInt8.ofNat m = c8 := ⟨_, rfl⟩
        rw [hc8] at hcv
        have HC8 := Lib.hid hc8
        clear hc8
        go_wp2_with fail
        go_ret
        refine ⟨?_, hb.alloc hb.size _⟩
        rw [← HC.out, Cl.vintF_small _ _ (by omega), HC8.out]
        exact congrArg (fun s => Ending.returned (Value.string s)) (mk_append l [c8])
  · obtain ⟨k, rfl⟩ : ∃ k : Nat, n = k := ⟨n.toNat, by omega⟩
    have hz : Cl.zig k = 2 * k := by unfold Cl.zig; rw [if_neg (by omega)]; omega
    rw [hz]
    have hk : (k : Int) ≤ (2 : Int) ^ 63 - 1 := by omega
    clear h1 h2 h hneg hz
    go_enter Try.func101, Try.ntmps101
    go_wp2_with fail
    go_loopw [3, 4] (fun u s wr => ∃ (l : List UInt8) (m f : Nat), u = .int .u64 m ∧ s = .string ⟨l.toArray⟩ ∧ Hid (m < 128 ^ (f + 1) ∧ l.length + f ≤ 9 ∧ m < 18446744073709551616) ∧ Hid (l ++ Cl.vintF f m = Cl.vint (2 * k)) ∧ Below w.heap.size w wr) (fun u _ _ => (intOf u).toNat)
    case atStart =>
      refine ⟨[], 2 * k, 9, by go_num, rfl, Lib.hid ⟨?_, by simp, by omega⟩, Lib.hid rfl, Below.refl _ _⟩
      rw [show (9 + 1 : Nat) = 10 from rfl, Cl.pow10]; omega
    case round =>
      obtain ⟨l, m, f, rfl, rfl, HM, HC, hb⟩ := hrel
      have hl9 : l.length ≤ 9 := by have := HM.out.2.1; omega
      have hm64 : (m : Int) ≤ (2 : Int) ^ 64 - 1 := by have := HM.out.2.2; omega
      by_cases hbig : 127 < m
      · have hd : decide ((127 : Int) < m) = true := by simp; omega
        obtain ⟨f', rfl⟩ : ∃ f', f = f' + 1 := by
          cases f with
          | zero => have := HM.out.1; simp at this; omega
          | succ f => exact ⟨f, rfl⟩
        have hcv := one_byte wr ((m : Int) % 128 + 128) (UInt8.ofNat (m % 128 + 128)) (by rw [UInt8.toNat_ofNat']; omega)
        obtain ⟨c8, hc8⟩ : ∃ c8, UInt8.ofNat (m % 128 + 128) = c8 := ⟨_, rfl⟩
        rw [hc8] at hcv
        have HC8 := Lib.hid hc8
        clear hc8
        go_wp2_with fail
        go_roundw
        case rel =>
          refine ⟨l ++ [c8], m / 128, f', by go_num, ?_, Lib.hid ⟨?_, ?_, ?_⟩, Lib.hid ?_, hb.alloc hb.size _⟩
          · exact congrArg Value.string (mk_append l [c8])
          · have := HM.out.1
            rw [Nat.pow_succ] at this
            exact Nat.div_lt_of_lt_mul (by rw [Nat.mul_comm]; exact this)
          · have := HM.out.2.1; rw [List.length_append]; simp; omega
          · have := HM.out.2.2; omega
          · rw [← HC8.out, ← HC.out, Cl.vintF_great _ _ (by omega), List.append_assoc]; rfl
        case measure => simp [intOf]; omega
      · have hd : decide ((127 : Int) < m) = false := by simp; omega
        have hcv := one_byte wr m (UInt8.ofNat m) (by rw [UInt8.toNat_ofNat']; omega)
        obtain ⟨c8, hc8⟩ : ∃ c8, UInt8.ofNat m = c8 := ⟨_, rfl⟩
        rw [hc8] at hcv
        have HC8 := Lib.hid hc8
        clear hc8
        go_wp2_with fail
        go_ret
        refine ⟨?_, hb.alloc hb.size _⟩
        rw [← HC.out, Cl.vintF_small _ _ (by omega), HC8.out]
        exact congrArg (fun s => Ending.returned (Value.string s)) (mk_append l [c8])


theorem str_at (s : ByteArray) (k : Nat) (h : k < s.size) : s.data.toList[k]? = some s[k] := by
  simp [h]; rfl

set_option maxHeartbeats 1000000 in
theorem refput_any (v : Value) (ns : List Int) (w : World) (hr : Reads w v ns.length (ints ns)) (hn : ns.length ≤ 1000000) (hi : ∀ n ∈ ns, Cl.In64 n) :
    Calls Try.prog 67 #[v] w fun e w' => e = .returned (.string ⟨(Cl.put ns).toArray⟩) ∧ Below w.heap.size w w' := by
  rcases hr with ⟨a, cap, rfl, h0, _⟩ | ⟨b1, o1, c1, rfl, hl, hm, hlt1, hc1⟩
  · have hx0 : ns = [] := List.eq_nil_of_length_eq_zero h0
    subst hx0
    clear hi hn h0
    go_enter Try.func67, Try.ntmps67
    go_wp2_with fail
    go_loop [3, 4] (fun s i => s = .string ⟨#[]⟩ ∧ i = .int .i64 0) (fun _ _ => 0)
    case atStart => exact ⟨rfl, rfl⟩
    case round =>
      obtain ⟨rfl, rfl⟩ := hrel
      go_wp2_with fail
      go_ret
      exact ⟨rfl, Below.refl _ _⟩
  · have HC := Lib.hid hc1
    clear hc1 hm hl
    go_enter Try.func67, Try.ntmps67
    go_wp2_with fail
    go_loopw [3, 4] (fun s i wr => ∃ k : Nat, k ≤ ns.length ∧ i = .int .i64 k ∧ s = .string ⟨(Cl.put (ns.take k)).toArray⟩ ∧ Below w.heap.size w wr) (fun _ i _ => ns.length - (intOf i).toNat)
    case atStart => exact ⟨0, by omega, rfl, rfl, Below.refl _ _⟩
    case round =>
      obtain ⟨k, hk, rfl, rfl, hb⟩ := hrel
      by_cases hlt : k < ns.length
      · obtain ⟨x, hx⟩ : ∃ x, ns[k]? = some x := ⟨ns[k], by simp [hlt]⟩
        have hx64 := hi x (List.mem_of_getElem? hx)
        have hcx2 : wr.cell? ⟨b1, o1 + k, none⟩ = some (.int .i64 x) := (hb.cell (p := ⟨b1, o1 + k, none⟩) hlt1).trans (HC.out k _ (ints_at hx))
        have HX := Lib.hid hx
        have HX64 := Lib.hid hx64
        have hpl : (Cl.put (ns.take k)).length ≤ 10000000 := by
          have h1 := Cl.put_len (ns.take k)
          have h2 : (ns.take k).length ≤ k := List.length_take_le _ _
          omega
        have hvl := (Cl.vint_len (Cl.zig x)).2
        have hpre : Cl.put (ns.take (k + 1)) = Cl.put (ns.take k) ++ Cl.vint (Cl.zig x) := by rw [take_snoc_of ns k x hx, Cl.put_snoc]
        have HP := Lib.hid hpre
        clear hx hx64 hpre
        generalize hq : Cl.put (ns.take k) = q at *
        generalize hy : Cl.vint (Cl.zig x) = y at *
        have HQ := Lib.hid hq
        have HY := Lib.hid hy
        clear hq hy
        go_wp2_with fail
        refine (one_any x _ HX64.out).mono ?_
        rintro e w1 ⟨rfl, hb1⟩
        rw [HY.out]
        go_wp2_with fail
        go_roundw
        case rel =>
          refine ⟨k + 1, by omega, by go_num, ?_, hb.trans (hb1.mono hb.size)⟩
          rw [HP.out]
          exact congrArg Value.string (mk_append q y)
        case measure => simp [intOf]; omega
      · obtain rfl : k = ns.length := by omega
        rw [List.take_length]
        go_wp2_with fail
        go_ret
        exact ⟨rfl, hb⟩

theorem dig_drop (l : List UInt8) (j : Nat) (c : UInt8) (h : l[j]? = some c) : Cl.dig (l.drop j) = c.toNat % 128 + 128 * Cl.dig (l.drop (j + 1)) := by
  have hl : j < l.length := (List.getElem?_eq_some_iff.1 h).1
  rw [List.drop_eq_getElem_cons hl, Cl.dig]
  have : l[j] = c := by
    rw [List.getElem?_eq_getElem hl] at h
    exact Option.some.inj h
  rw [this]

theorem dig_drop_le : ∀ (j : Nat) (l : List UInt8), Cl.dig (l.drop j) ≤ Cl.dig l
  | 0, l => by simp
  | j + 1, [] => by simp
  | j + 1, c :: l => by
    rw [List.drop_succ_cons, Cl.dig]
    have := dig_drop_le j l
    omega

set_option maxHeartbeats 2000000 in
theorem reftake_any (s : ByteArray) (w : World) :
    Calls Try.prog 99 #[.string s] w (TakeSays s.data.toList w) := by
  have hlen : s.data.toList.length = s.size := by simp
  have HL := Lib.hid hlen
  clear hlen
  go_enter Try.func99, Try.ntmps99
  go_wp2_with fail
  go_loop [5] (fun i => ∃ k : Nat, k ≤ s.size ∧ k ≤ 10 ∧ i = .int .i64 k ∧ Hid (k ≤ Cl.lead s.data.toList)) (fun i => s.size - (intOf i).toNat)
  case atStart => exact ⟨0, Nat.zero_le _, by omega, rfl, Lib.hid (by omega)⟩
  case round =>
    obtain ⟨k, hk, hk10, rfl, HR⟩ := hrel
    by_cases hlt : k < s.size
    · have hat := str_at s k hlt
      have hc256 : s[k].toNat < 256 := s[k].toNat_lt
      by_cases h10 : k < 10
      · by_cases hbig : 127 < s[k].toNat
        · have t3 : decide ((127 : Int) < s[k].toNat) = true := by simp; omega
          have hnext := Cl.lead_step _ k _ HR.out hat (by omega)
          have HN := Lib.hid hnext
          clear hnext hat hbig
          go_wp2_with fail
          go_round
          case rel => exact ⟨k + 1, by omega, by omega, by go_num, HN⟩
          case measure => simp [intOf]; omega
        · have t3 : decide ((127 : Int) < s[k].toNat) = false := by simp; omega
          by_cases hI : k = 9 ∧ 1 < s[k].toNat
          · obtain ⟨rfl, h1⟩ := hI
            have hfin := take_ten s.data.toList s[9] HR.out hat h1
            have HF := Lib.hid hfin
            have t4 : decide ((1 : Int) < s[9].toNat) = true := by simp; omega
            clear hfin hat hbig
            go_wp2_with fail
            go_ret3
            unfold TakeSays
            rw [HF.out]
            exact ⟨rfl, rfl⟩
          · have hend := take_end _ k _ HR.out (by omega) hat (by omega) (by omega)
            have hne : ((k : Int) == s.size) = false := by simp; omega
            have HW := Lib.hid (Cl.take_width _ k _ HR.out (by omega) hat (by omega) (by omega))
            by_cases hz : 0 < k ∧ s[k].toNat = 0
            · rw [if_pos hz] at hend
              have HF := Lib.hid hend
              have t5 : ((s[k].toNat : Int) == 0) = true := by simp; omega
              have t7 : decide (0 < (k : Int)) = true := by simp; omega
              have hz0 := hz.2
              have hkp := hz.1
              clear hend hat hz
              by_cases h9 : k = 9
              · subst h9
                have t4 : decide ((1 : Int) < s[9].toNat) = false := by simp; omega
                clear hI hbig hz0
                go_wp2_with fail
                go_ret3
                unfold TakeSays
                rw [HF.out]
                exact ⟨rfl, rfl⟩
              · have t8 : decide ((9 : Int) ≤ k) = false := by simp; omega
                clear hI hbig hz0
                go_wp2_with fail
                go_ret3
                unfold TakeSays
                rw [HF.out]
                exact ⟨rfl, rfl⟩
            · rw [if_neg hz] at hend
              have HF := Lib.hid hend
              clear hend hat
              by_cases h9 : k = 9
              · subst h9
                have t4 : decide ((1 : Int) < s[9].toNat) = false := by simp; omega
                have t5 : ((s[9].toNat : Int) == 0) = false := by simp; omega
                clear hI hbig hz
                go_wp2_with fail
                go_loop [6, 7] (fun u i => ∃ j m : Nat, j ≤ 9 + 1 ∧ i = .int .i64 ((j : Int) - 1) ∧ u = .int .u64 m ∧ Hid (m = Cl.dig ((s.data.toList.take (9 + 1)).drop j))) (fun _ i => (intOf i + 1).toNat)
                case atStart => exact ⟨9 + 1, 0, by omega, by first | rfl | (congr 1; omega) | (congr 1), rfl, Lib.hid (by rw [List.drop_of_length_le (by rw [List.length_take]; omega)]; rfl)⟩
                case round =>
                  obtain ⟨j, m, hj, rfl, rfl, HD⟩ := hrel
                  cases j with
                  | zero =>
                    have hd2 : m = Cl.dig (s.data.toList.take (9 + 1)) := by have := HD.out; simpa using this
                    have hm64 : (m : Int) ≤ (2 : Int) ^ 64 - 1 := by have := HW.out; rw [← hd2] at this; omega
                    have HD2 := Lib.hid hd2
                    clear hd2
                    have hu : Cl.unzig m = if m % 2 = 1 then -((m / 2 : Nat) : Int) - 1 else ((m / 2 : Nat) : Int) := rfl
                    by_cases hodd : m % 2 = 1
                    · rw [if_pos hodd] at hu
                      have HU := Lib.hid hu
                      have t6 : ((m : Int) % 2 == 1) = true := by simp; omega
                      clear hu hodd
                      go_wp2_with fail
                      go_ret3
                      unfold TakeSays
                      rw [HF.out, ← HD2.out, HU.out]
                      exact ⟨by simp, rfl⟩
                    · rw [if_neg hodd] at hu
                      have HU := Lib.hid hu
                      have t6 : ((m : Int) % 2 == 1) = false := by simp; omega
                      clear hu hodd
                      go_wp2_with fail
                      go_ret3
                      unfold TakeSays
                      rw [HF.out, ← HD2.out, HU.out]
                      exact ⟨by simp, rfl⟩
                  | succ j =>
                    have hjs : j < s.size := by omega
                    have hjat : (s.data.toList.take (9 + 1))[j]? = some s[j] := by rw [List.getElem?_take_of_lt (by omega)]; exact str_at s j hjs
                    have hdd := dig_drop _ j _ hjat
                    rw [← HD.out] at hdd
                    have hdl := dig_drop_le j (s.data.toList.take (9 + 1))
                    have hdw := HW.out
                    have hm64 : s[j].toNat % 128 + 128 * m ≤ 2 ^ 64 - 1 := by rw [← hdd]; omega
                    have HDD := Lib.hid hdd
                    have hc256j : s[j].toNat < 256 := s[j].toNat_lt
                    clear hdd hdl hdw hjat
                    generalize hcj : s[j] = cj at *
                    have e1 : ((j + 1 : Nat) : Int) - 1 = (j : Int) := by omega
                    rw [e1]
                    go_wp2_with fail
                    go_round
                    case rel => exact ⟨j, s[j].toNat % 128 + 128 * m, by omega, rfl, by rw [hcj]; first | rfl | (congr 1; omega), Lib.hid (by rw [hcj]; exact HDD.out.symm)⟩
                    case measure => first | (simp [intOf]; done) | (simp [intOf]; omega)
              · have t8 : decide ((9 : Int) ≤ k) = false := by simp; omega
                by_cases h0 : k = 0
                · subst h0
                  clear hI hbig hz
                  go_wp2_with fail
                  go_loop [6, 7] (fun u i => ∃ j m : Nat, j ≤ 0 + 1 ∧ i = .int .i64 ((j : Int) - 1) ∧ u = .int .u64 m ∧ Hid (m = Cl.dig ((s.data.toList.take (0 + 1)).drop j))) (fun _ i => (intOf i + 1).toNat)
                  case atStart => exact ⟨0 + 1, 0, by omega, by first | rfl | (congr 1; omega) | (congr 1), rfl, Lib.hid (by rw [List.drop_of_length_le (by rw [List.length_take]; omega)]; rfl)⟩
                  case round =>
                    obtain ⟨j, m, hj, rfl, rfl, HD⟩ := hrel
                    cases j with
                    | zero =>
                      have hd2 : m = Cl.dig (s.data.toList.take (0 + 1)) := by have := HD.out; simpa using this
                      have hm64 : (m : Int) ≤ (2 : Int) ^ 64 - 1 := by have := HW.out; rw [← hd2] at this; omega
                      have HD2 := Lib.hid hd2
                      clear hd2
                      have hu : Cl.unzig m = if m % 2 = 1 then -((m / 2 : Nat) : Int) - 1 else ((m / 2 : Nat) : Int) := rfl
                      by_cases hodd : m % 2 = 1
                      · rw [if_pos hodd] at hu
                        have HU := Lib.hid hu
                        have t6 : ((m : Int) % 2 == 1) = true := by simp; omega
                        clear hu hodd
                        go_wp2_with fail
                        go_ret3
                        unfold TakeSays
                        rw [HF.out, ← HD2.out, HU.out]
                        exact ⟨by simp, rfl⟩
                      · rw [if_neg hodd] at hu
                        have HU := Lib.hid hu
                        have t6 : ((m : Int) % 2 == 1) = false := by simp; omega
                        clear hu hodd
                        go_wp2_with fail
                        go_ret3
                        unfold TakeSays
                        rw [HF.out, ← HD2.out, HU.out]
                        exact ⟨by simp, rfl⟩
                    | succ j =>
                      have hjs : j < s.size := by omega
                      have hjat : (s.data.toList.take (0 + 1))[j]? = some s[j] := by rw [List.getElem?_take_of_lt (by omega)]; exact str_at s j hjs
                      have hdd := dig_drop _ j _ hjat
                      rw [← HD.out] at hdd
                      have hdl := dig_drop_le j (s.data.toList.take (0 + 1))
                      have hdw := HW.out
                      have hm64 : s[j].toNat % 128 + 128 * m ≤ 2 ^ 64 - 1 := by rw [← hdd]; omega
                      have HDD := Lib.hid hdd
                      have hc256j : s[j].toNat < 256 := s[j].toNat_lt
                      clear hdd hdl hdw hjat
                      generalize hcj : s[j] = cj at *
                      have e1 : ((j + 1 : Nat) : Int) - 1 = (j : Int) := by omega
                      rw [e1]
                      go_wp2_with fail
                      go_round
                      case rel => exact ⟨j, s[j].toNat % 128 + 128 * m, by omega, rfl, by rw [hcj]; first | rfl | (congr 1; omega), Lib.hid (by rw [hcj]; exact HDD.out.symm)⟩
                      case measure => first | (simp [intOf]; done) | (simp [intOf]; omega)
                · have t7 : decide (0 < (k : Int)) = true := by simp; omega
                  have t5 : ((s[k].toNat : Int) == 0) = false := by simp; omega
                  clear hI hbig hz
                  go_wp2_with fail
                  go_loop [6, 7] (fun u i => ∃ j m : Nat, j ≤ k + 1 ∧ i = .int .i64 ((j : Int) - 1) ∧ u = .int .u64 m ∧ Hid (m = Cl.dig ((s.data.toList.take (k + 1)).drop j))) (fun _ i => (intOf i + 1).toNat)
                  case atStart => exact ⟨k + 1, 0, by omega, by first | rfl | (congr 1; omega) | (congr 1), rfl, Lib.hid (by rw [List.drop_of_length_le (by rw [List.length_take]; omega)]; rfl)⟩
                  case round =>
                    obtain ⟨j, m, hj, rfl, rfl, HD⟩ := hrel
                    cases j with
                    | zero =>
                      have hd2 : m = Cl.dig (s.data.toList.take (k + 1)) := by have := HD.out; simpa using this
                      have hm64 : (m : Int) ≤ (2 : Int) ^ 64 - 1 := by have := HW.out; rw [← hd2] at this; omega
                      have HD2 := Lib.hid hd2
                      clear hd2
                      have hu : Cl.unzig m = if m % 2 = 1 then -((m / 2 : Nat) : Int) - 1 else ((m / 2 : Nat) : Int) := rfl
                      by_cases hodd : m % 2 = 1
                      · rw [if_pos hodd] at hu
                        have HU := Lib.hid hu
                        have t6 : ((m : Int) % 2 == 1) = true := by simp; omega
                        clear hu hodd
                        go_wp2_with fail
                        go_ret3
                        unfold TakeSays
                        rw [HF.out, ← HD2.out, HU.out]
                        exact ⟨by simp, rfl⟩
                      · rw [if_neg hodd] at hu
                        have HU := Lib.hid hu
                        have t6 : ((m : Int) % 2 == 1) = false := by simp; omega
                        clear hu hodd
                        go_wp2_with fail
                        go_ret3
                        unfold TakeSays
                        rw [HF.out, ← HD2.out, HU.out]
                        exact ⟨by simp, rfl⟩
                    | succ j =>
                      have hjs : j < s.size := by omega
                      have hjat : (s.data.toList.take (k + 1))[j]? = some s[j] := by rw [List.getElem?_take_of_lt (by omega)]; exact str_at s j hjs
                      have hdd := dig_drop _ j _ hjat
                      rw [← HD.out] at hdd
                      have hdl := dig_drop_le j (s.data.toList.take (k + 1))
                      have hdw := HW.out
                      have hm64 : s[j].toNat % 128 + 128 * m ≤ 2 ^ 64 - 1 := by rw [← hdd]; omega
                      have HDD := Lib.hid hdd
                      have hc256j : s[j].toNat < 256 := s[j].toNat_lt
                      clear hdd hdl hdw hjat
                      generalize hcj : s[j] = cj at *
                      have e1 : ((j + 1 : Nat) : Int) - 1 = (j : Int) := by omega
                      rw [e1]
                      go_wp2_with fail
                      go_round
                      case rel => exact ⟨j, s[j].toNat % 128 + 128 * m, by omega, rfl, by rw [hcj]; first | rfl | (congr 1; omega), Lib.hid (by rw [hcj]; exact HDD.out.symm)⟩
                      case measure => first | (simp [intOf]; done) | (simp [intOf]; omega)
      · obtain rfl : k = 10 := by omega
        have h9 : 128 ≤ s[9].toNat := Cl.lead_on _ 9 _ (by have := HR.out; omega) (str_at s 9 (by omega))
        have hfin := take_ten s.data.toList s[9] (by have := HR.out; omega) (str_at s 9 (by omega)) (by omega)
        have HF := Lib.hid hfin
        have t4 : decide ((1 : Int) < s[9].toNat) = true := by simp; omega
        clear hfin hat
        go_wp2_with fail
        go_ret3
        unfold TakeSays
        rw [HF.out]
        exact ⟨rfl, rfl⟩
    · by_cases h9 : k = 10
      · subst h9
        have h9 : 128 ≤ s[9].toNat := Cl.lead_on _ 9 _ (by have := HR.out; omega) (str_at s 9 (by omega))
        have hfin := take_ten s.data.toList s[9] (by have := HR.out; omega) (str_at s 9 (by omega)) (by omega)
        have HF := Lib.hid hfin
        have t4 : decide ((1 : Int) < s[9].toNat) = true := by simp; omega
        clear hfin
        go_wp2_with fail
        go_ret3
        unfold TakeSays
        rw [HF.out]
        exact ⟨rfl, rfl⟩
      · have hfin := take_short s.data.toList k HR.out (by omega) (by rw [HL.out]; omega)
        have HF := Lib.hid hfin
        obtain rfl : k = s.size := by omega
        clear hfin
        go_wp2_with fail
        all_goals
          go_ret3
          unfold TakeSays
          rw [HF.out]
          exact ⟨rfl, rfl⟩

end Go.Proofs.Ytllecjhfbojgcaa
