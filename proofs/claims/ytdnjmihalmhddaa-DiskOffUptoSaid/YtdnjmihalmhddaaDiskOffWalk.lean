/-
  The walk through the statement DiskOff.
-/
import Derived.Test.YtdnjmihalmhddaaDiskRoomWalk
namespace Go.Proofs.Ytdnjmihalmhddaa
open Go.RowKit

/-- Behind k Appends, with n operations at first. -/
structure OffAt (w wr : World) (d : Nat) (S : Dk.St) (ss : List ByteArray) (n k : Nat) : Prop where
  live : Live w wr d S
  off : S.off = decide (n < k)
  left : S.left = ((n - k : Nat) : Int)
  many : S.loose.length ≤ k
  room : S.room = 4194304
  file : (Dk.at' S.now 0).data.toList = cat (ss.take (min k n))
  total : Dk.total S.now ≤ (cat (ss.take k)).length

theorem cat_take_succ {ss : List ByteArray} {k : Nat} {s : ByteArray} (h : ss[k]? = some s) : cat (ss.take (k + 1)) = cat (ss.take k) ++ s.data.toList := by
  rw [take_snoc_of ss k s h]
  simp [cat]
theorem cat_take_le (ss : List ByteArray) (k : Nat) : (cat (ss.take k)).length ≤ (cat ss).length := by
  have : cat ss = cat (ss.take k) ++ cat (ss.drop k) := by
    unfold cat
    rw [← List.flatMap_append, List.take_append_drop]
  rw [this, List.length_append]
  omega
theorem size_list (s : ByteArray) : s.size = s.data.toList.length := (Array.length_toList (xs := s.data)).symm

theorem off_yes {w wr : World} {d : Nat} {S : Dk.St} {ss : List ByteArray} {n k : Nat} {s : ByteArray} (h : OffAt w wr d S ss n k) (hk : k ≤ 300) (hs : ss[k]? = some s) (hb : (cat ss).length ≤ 262144) (hkn : k < n) :
    Calls Try.prog 11 #[ptr d 0, .int .i64 0, .string s] wr fun e w' => e = .returned (.int .i64 0) ∧ ∃ S', OffAt w w' d S' ss n (k + 1) := by
  have hm := h.many
  have hoff : S.off = false := by rw [h.off]; simp; omega
  have hc := cat_take_succ hs
  have hle := cat_take_le ss (k + 1)
  rw [hc, List.length_append, ← size_list] at hle
  have htot := h.total
  have e := Dk.append_yes (S := S) (f := 0) (s := s) hoff (by decide) (by unfold Dk.leftOf; rw [h.room]; omega) (by rw [h.left]; omega)
  refine (live_append h.live 0 s (by omega)).mono fun _ _ ⟨h1, h2⟩ => ?_
  rw [e] at h1 h2
  have hnL := h.live.ok.nowL
  refine ⟨h1, _, ⟨h2, ?_, ?_, ?_, h.room, ?_, ?_⟩⟩
  · show S.off = _
    rw [hoff]; simp; omega
  · show Dk.less S.left = _
    unfold Dk.less
    rw [h.left, if_pos (by omega)]
    omega
  · show (S.loose ++ [_]).length ≤ _
    simp
    omega
  · show (Dk.at' (S.now.set 0 (Dk.at' S.now 0 ++ s)) 0).data.toList = _
    rw [Dk.at_set_same _ _ _ (by omega), show min (k + 1) n = k + 1 by omega, hc]
    have hf := h.file
    rw [show min k n = k by omega] at hf
    rw [← hf]
    simp [ByteArray.data_append]
  · show Dk.total ((Dk.Ch.app 0 s).run S.now) ≤ _
    rw [Dk.total_app _ _ _ (by omega), hc, List.length_append, ← size_list]
    omega

theorem off_no {w wr : World} {d : Nat} {S : Dk.St} {ss : List ByteArray} {n k : Nat} {s : ByteArray} (h : OffAt w wr d S ss n k) (hk : k ≤ 300) (hs : ss[k]? = some s) (hb : (cat ss).length ≤ 262144) (hkn : ¬ k < n) :
    Calls Try.prog 11 #[ptr d 0, .int .i64 0, .string s] wr fun e w' => e = .returned (.int .i64 50) ∧ ∃ S', OffAt w w' d S' ss n (k + 1) := by
  have hm := h.many
  have hc := cat_take_succ hs
  have hle := cat_take_le ss (k + 1)
  rw [hc, List.length_append, ← size_list] at hle
  have htot := h.total
  have htot' : Dk.total S.now ≤ (cat (ss.take (k + 1))).length := by rw [hc, List.length_append]; omega
  have hf := h.file
  rw [show min k n = min (k + 1) n by omega] at hf
  by_cases hn : n < k
  · have hoff : S.off = true := by rw [h.off]; simpa using hn
    have e : Dk.append S 0 s = (50, S) := by
      have hr : Dk.ready S [0] = 50 := by unfold Dk.ready; rw [if_pos hoff]
      unfold Dk.append
      rw [hr, if_pos (by decide)]
    refine (live_append h.live 0 s (by omega)).mono fun _ _ ⟨h1, h2⟩ => ?_
    rw [e] at h1 h2
    exact ⟨h1, S, h2, by rw [hoff]; simp; omega, by rw [h.left]; omega, by omega, h.room, hf, htot'⟩
  · obtain rfl : k = n := by omega
    have hoff : S.off = false := by rw [h.off]; simp
    have e : Dk.append S 0 s = (50, { S with off := true }) := by
      unfold Dk.append
      rw [Dk.ready1 hoff (by decide), if_neg (by decide), if_neg (by unfold Dk.leftOf; rw [h.room]; omega)]
      unfold Dk.change
      rw [if_pos (by rw [h.left]; omega)]
    refine (live_append h.live 0 s (by omega)).mono fun _ _ ⟨h1, h2⟩ => ?_
    rw [e] at h1 h2
    refine ⟨h1, _, h2, ?_, ?_, ?_, h.room, hf, htot'⟩
    · show true = _
      simp
    · show S.left = _
      rw [h.left]; omega
    · show S.loose.length ≤ _
      omega

/-- Behind the crash. -/
theorem off_end {w wr : World} {d : Nat} {S : Dk.St} {ss : List ByteArray} {n k : Nat} (h : OffAt w wr d S ss n k) (hk : k ≤ 300) :
    (Dk.read (Dk.crash S 1099511627776 0) 0).1.data.toList = cat (ss.take (min k n)) ∧ (Dk.read (Dk.crash S 1099511627776 0) 0).2 = 0 := by
  have hm := h.many
  have hcl : Dk.clip 1099511627776 S.loose.length = S.loose.length := by unfold Dk.clip; omega
  have hkp : Dk.kept S 1099511627776 0 = S.now := by
    unfold Dk.kept
    rw [hcl, List.getElem?_eq_none (Nat.le_refl _), List.take_length, h.live.ok.now]
    rfl
  rw [Dk.read_yes rfl (by decide)]
  refine ⟨?_, rfl⟩
  show (Dk.at' (Dk.kept S 1099511627776 0) 0).data.toList = _
  rw [hkp]
  exact h.file

theorem reads_take {w : World} {a : Option Addr} {c : Nat} {ss : List ByteArray} (h : Reads w (.slice a ss.length c) ss.length (strV ss)) (m : Nat) (hm : m ≤ ss.length) : Reads w (.slice a m c) (ss.take m).length (strV (ss.take m)) := by
  have hl : (ss.take m).length = m := by rw [List.length_take]; omega
  rw [hl]
  rcases h with ⟨a', cap, hv, h0, _⟩ | ⟨b, off, cap, hv, h1, h2, h3, h4⟩
  · simp only [Value.slice.injEq] at hv
    obtain ⟨rfl, -, rfl⟩ := hv
    obtain rfl : m = 0 := by omega
    exact .inl ⟨_, _, rfl, rfl, rfl⟩
  · simp only [Value.slice.injEq] at hv
    obtain ⟨rfl, -, rfl⟩ := hv
    refine .inr ⟨b, off, c, rfl, by omega, h2, h3, fun i v hi => h4 i v ?_⟩
    have hi' : i < m := by
      have := (List.getElem?_eq_some_iff.1 hi).1
      simp [strV] at this
      omega
    rw [← hi]
    simp [strV, List.getElem?_take_of_lt hi']

theorem off_start {w w1 : World} {d : Nat} {ss : List ByteArray} {n : Nat} (h : Live w w1 d (Dk.power (Dk.fresh 4194304) (n : Int)).2) : OffAt w w1 d { Dk.fresh 4194304 with left := (n : Int) } ss n 0 := by
  have e : (Dk.power (Dk.fresh 4194304) (n : Int)).2 = { Dk.fresh 4194304 with left := (n : Int) } := by
    unfold Dk.power
    rw [if_neg (by simp [Dk.fresh]), if_neg (by omega)]
  rw [e] at h
  refine ⟨h, by simp [Dk.fresh], by simp, Nat.zero_le _, rfl, by simp [cat]; rfl, ?_⟩
  show Dk.total Dk.none' ≤ _
  rw [Dk.total_none]
  exact Nat.zero_le _

/-- Whether the disk is on, and what it answers, at the end. -/
theorem off_says {w wr : World} {d : Nat} {S : Dk.St} {ss : List ByteArray} {n k : Nat} (h : OffAt w wr d S ss n k) :
    (n < k → S.off = true ∧ (Dk.read S 0).2 = 50 ∧ Dk.sync S = (50, S) ∧ Dk.power S 5 = (50, S)) ∧ (¬ n < k → S.off = false ∧ (Dk.read S 0).2 = 0) := by
  refine ⟨fun hn => ?_, fun hn => ?_⟩
  · have hoff : S.off = true := by rw [h.off]; simpa using hn
    refine ⟨hoff, ?_, if_pos hoff, if_pos hoff⟩
    have hr : Dk.ready S [0] = 50 := by unfold Dk.ready; rw [if_pos hoff]
    unfold Dk.read
    rw [hr]
    rfl
  · have hoff : S.off = false := by rw [h.off]; simpa using hn
    exact ⟨hoff, by rw [Dk.read_yes hoff (by decide)]⟩

set_option maxHeartbeats 8000000 in
theorem off_main (n : Nat) (v : Value) (ss : List ByteArray) (w : World) (hn63 : n ≤ 9223372036854775807) (hr : Reads w v ss.length (strV ss)) (hb : (cat ss).length ≤ 1048576) (hn : ss.length ≤ 1048576) (h200 : ss.length ≤ 200) (hbig : (cat ss).length ≤ 262144) :
    Calls Try.prog 8 #[.int .i64 (n : Int), v] w fun e w' => e = .returned (.bool true) ∧ Below w.heap.size w w' := by
  have hd200 : decide ((200 : Int) < (ss.length : Int)) = false := by simp; omega
  have hd0 : decide ((n : Int) < 0) = false := by simp
  have HR := Lib.hid hr
  have HB := Lib.hid hb
  obtain ⟨a, c, rfl⟩ := hr.shape
  have hcap : ss.length ≤ c := by
    rcases hr with ⟨_, _, _, h0, _⟩ | ⟨b, o, cp, hv, h1, _⟩
    · rw [h0]; exact Nat.zero_le _
    · simp only [Value.slice.injEq] at hv; omega
  have HN := Lib.hid hn
  have HBIG := Lib.hid hbig
  clear hr hb hn hbig
  go_enter Try.func8, Try.ntmps8
  go_wp2_with fail
  refine (live_new 4194304 w (by decide)).mono ?_
  rintro e w1 ⟨rfl, h⟩
  have HR1 := Lib.hid (HR.out.below h.bel)
  have H := Lib.hid h
  clear h
  unfold ptr
  go_wp2_with fail
  refine (sjoin_any _ ss _ HR1.out HB.out HN.out).mono ?_
  rintro e w2 ⟨s, rfl, hs1, hs2, hb2⟩
  have ht : decide ((262144 : Int) < s.size) = false := by have := HBIG.out; simp; omega
  have H := Lib.hid (H.out.below hb2)
  clear hs1 hs2 hb2
  go_wp2_with fail
  refine (live_power H.out (n : Int) (by omega)).mono ?_
  rintro e w3 ⟨rfl, h⟩
  have hpw : (Dk.power (Dk.fresh 4194304) (n : Int)).1 = 0 := by
    unfold Dk.power
    rw [if_neg (by simp [Dk.fresh]), if_neg (by omega)]
  rw [hpw]
  have HA := Lib.hid (off_start (ss := ss) h)
  clear h hpw ht
  go_wp2_with fail
  go_loopw [42] (fun iv wr => ∃ (k : Nat) (S : Dk.St), k ≤ ss.length ∧ iv = .int .i64 (k : Int) ∧ Hid (OffAt w wr w.heap.size S ss n k)) (fun iv _ => ss.length - (intOf iv).toNat)
  case atStart => exact ⟨0, _, Nat.zero_le _, rfl, HA⟩
  case round =>
    obtain ⟨k, S, hk, rfl, HA⟩ := hrel
    by_cases hlt : k < ss.length
    · obtain ⟨x, hx⟩ : ∃ x, ss[k]? = some x := ⟨ss[k], by simp [hlt]⟩
      obtain ⟨b, o, cp, hv, -, -, -, hcells⟩ := (HR.out.below HA.out.live.bel).some (by omega)
      simp only [Value.slice.injEq] at hv
      obtain ⟨rfl, -, rfl⟩ := hv
      have hcx := hcells k _ (strV_at hx)
      have HX := Lib.hid hx
      clear hcells hx
      by_cases hkn : k < n
      · have hd : decide ((k : Int) < (n : Int)) = true := by simpa using hkn
        have hd' : decide (k < n) = true := by simpa using hkn
        go_wp2_with fail
        refine (off_yes HA.out (by omega) HX.out HBIG.out hkn).mono ?_
        rintro e w4 ⟨rfl, S', hA'⟩
        have HA' := Lib.hid hA'
        clear hA'
        go_wp2_with fail
        go_roundw
        case rel => exact ⟨k + 1, S', by omega, by go_num, HA'⟩
        case measure => simp [intOf]; omega
      · have hd : decide ((k : Int) < (n : Int)) = false := by simpa using hkn
        have hd' : decide (k < n) = false := by simpa using hkn
        go_wp2_with fail
        refine (off_no HA.out (by omega) HX.out HBIG.out hkn).mono ?_
        rintro e w4 ⟨rfl, S', hA'⟩
        have HA' := Lib.hid hA'
        clear hA'
        go_wp2_with fail
        go_roundw
        case rel => exact ⟨k + 1, S', by omega, by go_num, HA'⟩
        case measure => simp [intOf]; omega
    · obtain rfl : k = ss.length := by omega
      obtain ⟨m, hm⟩ : ∃ m, min ss.length n = m := ⟨_, rfl⟩
      have hml : m ≤ ss.length := by omega
      obtain ⟨e1, e2⟩ := off_end HA.out (by omega)
      rw [hm] at e1
      have HM := Lib.hid hm
      have HE1 := Lib.hid e1
      have HE2 := Lib.hid e2
      clear e1 e2 hm
      have hcat : (cat (ss.take m)).length ≤ 1048576 := Nat.le_trans (cat_take_le ss m) HB.out
      have HCAT := Lib.hid hcat
      clear hcat
      by_cases hnk : n < ss.length
      · obtain ⟨s1, s2, s3, s4⟩ := (off_says HA.out).1 hnk
        have S2 := Lib.hid s2
        have S3 := Lib.hid s3
        have S4 := Lib.hid s4
        have S1 := Lib.hid s1
        obtain rfl : m = n := by have := HM.out; omega
        have hd : decide ((ss.length : Int) ≤ (m : Int)) = false := by simp; omega
        have hd' : decide (ss.length ≤ m) = false := by simp; omega
        have hd2 : decide ((m : Int) < (ss.length : Int)) = true := by simp; omega
        have hd2' : decide (m < ss.length) = true := by simp; omega
        clear s1 s2 s3 s4
        go_wp2_with fail
        refine (live_on HA.out.live).mono ?_
        rintro e w4 ⟨rfl, rfl⟩
        rw [S1.out]
        have HMT := Lib.hid (show (min (m : Int) (ss.length : Int)).toNat = m by omega)
        go_wp2_with fail
        refine (live_read HA.out.live _).mono ?_
        rintro e w4 ⟨rfl, h⟩
        rw [S2.out]
        have HC := Lib.hid h
        clear h
        go_wp2_with fail
        refine (live_sync HC.out).mono ?_
        rintro e w4 ⟨rfl, h⟩
        rw [S3.out] at h ⊢
        have HC := Lib.hid h
        clear h
        go_wp2_with fail
        refine (live_power HC.out _ (by decide)).mono ?_
        rintro e w4 ⟨rfl, h⟩
        rw [S4.out] at h ⊢
        have HC := Lib.hid h
        clear h
        go_wp2_with fail
        refine (live_crash HC.out _ _).mono ?_
        rintro e w5 ⟨rfl, h⟩
        have HC := Lib.hid h
        clear h
        go_wp2_with fail
        refine (live_read HC.out _).mono ?_
        rintro e w6 ⟨rfl, h⟩
        rw [HE2.out]
        have HC := Lib.hid h
        clear h
        obtain ⟨r, hr⟩ : ∃ r, (Dk.read (Dk.crash S 1099511627776 0) 0).1 = r := ⟨_, rfl⟩
        have hre := HE1.out
        rw [hr] at hre ⊢
        have HRE := Lib.hid hre
        clear hr hre HE1 HE2
        go_wp2_with fail
        rw [HMT.out]
        refine (sjoin_any _ (ss.take m) _ (reads_take (HR.out.below HC.out.bel) m hml) HCAT.out (by rw [List.length_take]; have := HN.out; omega)).mono ?_
        rintro e w7 ⟨j, rfl, hs1, hs2, hb2⟩
        obtain rfl : j = r := ByteArray.ext (Array.toList_inj.1 (hs1.trans HRE.out.symm))
        have HC := Lib.hid (HC.out.below hb2)
        clear hs1 hs2 hb2 HRE
        go_wp2_with fail
        refine (works_any _).mono ?_
        rintro e w8 ⟨rfl, hb⟩
        go_wp2_with fail
        go_ret
        exact ⟨rfl, bel_trans HC.out.bel hb⟩
      · obtain ⟨s1, s2⟩ := (off_says HA.out).2 hnk
        have S2 := Lib.hid s2
        have S1 := Lib.hid s1
        obtain rfl : m = ss.length := by have := HM.out; omega
        have hd : decide ((ss.length : Int) ≤ (n : Int)) = true := by simp; omega
        have hd' : decide (ss.length ≤ n) = true := by simp; omega
        have hd2 : decide ((n : Int) < (ss.length : Int)) = false := by simp; omega
        have hd2' : decide (n < ss.length) = false := by simp; omega
        have HMT := Lib.hid (show (min (n : Int) (ss.length : Int)).toNat = ss.length by omega)
        clear s1 s2
        go_wp2_with fail
        refine (live_on HA.out.live).mono ?_
        rintro e w4 ⟨rfl, rfl⟩
        rw [S1.out]
        go_wp2_with fail
        refine (live_read HA.out.live _).mono ?_
        rintro e w4 ⟨rfl, h⟩
        rw [S2.out]
        have HC := Lib.hid h
        clear h
        go_wp2_with fail
        refine (live_crash HC.out _ _).mono ?_
        rintro e w5 ⟨rfl, h⟩
        have HC := Lib.hid h
        clear h
        go_wp2_with fail
        refine (live_read HC.out _).mono ?_
        rintro e w6 ⟨rfl, h⟩
        rw [HE2.out]
        have HC := Lib.hid h
        clear h
        obtain ⟨r, hr⟩ : ∃ r, (Dk.read (Dk.crash S 1099511627776 0) 0).1 = r := ⟨_, rfl⟩
        have hre := HE1.out
        rw [hr] at hre ⊢
        have HRE := Lib.hid hre
        clear hr hre HE1 HE2
        go_wp2_with fail
        rw [HMT.out]
        refine (sjoin_any _ (ss.take ss.length) _ (reads_take (HR.out.below HC.out.bel) ss.length hml) HCAT.out (by rw [List.length_take]; have := HN.out; omega)).mono ?_
        rintro e w7 ⟨j, rfl, hs1, hs2, hb2⟩
        obtain rfl : j = r := ByteArray.ext (Array.toList_inj.1 (hs1.trans HRE.out.symm))
        have HC := Lib.hid (HC.out.below hb2)
        clear hs1 hs2 hb2 HRE
        go_wp2_with fail
        refine (works_any _).mono ?_
        rintro e w8 ⟨rfl, hb⟩
        go_wp2_with fail
        go_ret
        exact ⟨rfl, bel_trans HC.out.bel hb⟩

theorem diskOff_walk (n : Int) (v : Value) (ss : List ByteArray) (w : World) (hw : (Lit.int .i64 n).wf = true) (hr : Reads w v ss.length (strV ss)) (hb : (cat ss).length ≤ 1048576) (hn : ss.length ≤ 1048576) :
    Calls Try.prog 8 #[.int .i64 n, v] w fun e w' => e = .returned (.bool true) ∧ Below w.heap.size w w' := by
  have hwf := wf64 hw
  by_cases hn0 : 0 ≤ n
  · obtain ⟨m, rfl⟩ : ∃ m : Nat, n = m := ⟨n.toNat, by omega⟩
    have hd0 : decide ((m : Int) < 0) = false := by simp
    by_cases h200 : ss.length ≤ 200
    · by_cases hbig : (cat ss).length ≤ 262144
      · exact off_main m v ss w (by omega) hr hb hn h200 hbig
      · have hd200 : decide ((200 : Int) < (ss.length : Int)) = false := by simp; omega
        have HR := Lib.hid hr
        obtain ⟨a, c, rfl⟩ := hr.shape
        clear hr hn0 hwf hw
        go_enter Try.func8, Try.ntmps8
        go_wp2_with fail
        refine (live_new 4194304 w (by decide)).mono ?_
        rintro e w1 ⟨rfl, h⟩
        have H := Lib.hid h
        clear h
        unfold ptr
        go_wp2_with fail
        refine (sjoin_any _ ss _ (HR.out.below H.out.bel) hb hn).mono ?_
        rintro e w2 ⟨s, rfl, hs1, hs2, hb2⟩
        have ht : decide ((262144 : Int) < s.size) = true := by simp; omega
        have H := Lib.hid (H.out.below hb2)
        clear hs1 hs2 hb2 hbig
        go_wp2_with fail
        refine (works_any _).mono ?_
        rintro e w3 ⟨rfl, hb⟩
        go_wp2_with fail
        go_ret
        exact ⟨rfl, bel_trans H.out.bel hb⟩
    · have hd200 : decide ((200 : Int) < (ss.length : Int)) = true := by simp; omega
      obtain ⟨a, c, rfl⟩ := hr.shape
      have hlen := hr.lenLe
      unfold maxLen at hlen
      clear hr hn0 hwf hw
      go_enter Try.func8, Try.ntmps8
      go_wp2_with fail
      refine (live_new 4194304 w (by decide)).mono ?_
      rintro e w1 ⟨rfl, h⟩
      have H := Lib.hid h
      clear h
      unfold ptr
      go_wp2_with fail
      refine (works_any _).mono ?_
      rintro e w3 ⟨rfl, hb⟩
      go_wp2_with fail
      go_ret
      exact ⟨rfl, bel_trans H.out.bel hb⟩
  · have hd0 : decide (n < 0) = true := by simp; omega
    obtain ⟨a, c, rfl⟩ := hr.shape
    clear hr hn0 hwf hw
    go_enter Try.func8, Try.ntmps8
    go_wp2_with fail
    refine (live_new 4194304 w (by decide)).mono ?_
    rintro e w1 ⟨rfl, h⟩
    have H := Lib.hid h
    clear h
    unfold ptr
    go_wp2_with fail
    refine (works_any _).mono ?_
    rintro e w3 ⟨rfl, hb⟩
    go_wp2_with fail
    go_ret
    exact ⟨rfl, bel_trans H.out.bel hb⟩

end Go.Proofs.Ytdnjmihalmhddaa
