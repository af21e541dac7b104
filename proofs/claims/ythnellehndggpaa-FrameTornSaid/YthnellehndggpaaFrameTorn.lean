/-
  The walk through the statement FrameTorn.
-/
import Derived.Test.YthnellehndggpaaFrameLaws
namespace Go.Proofs.Ythnellehndggpaa
open Go.RowKit

theorem putf_sb (c : UInt8) (s sb : ByteArray) (w : World) (hc : c.toNat ≠ 0) (hs : s.size ≤ 65536) (h : (⟨(Cl.putF c s.data.toList).toArray⟩ : ByteArray) = sb) :
    Calls Try.prog 30 #[.int .u8 c.toNat, .string s] w fun e w' => e = .returned (.tuple #[.string sb, .int .i64 0]) ∧ Below w.heap.size w w' := by
  rw [← h]; exact putf_ok c s w hc hs

set_option maxHeartbeats 1000000 in
theorem frameTorn_bad (c : UInt8) (p : ByteArray) (at_ : Int) (by_ : Int) (w : World) (hp : p.size ≤ 140737488351232) (h : c.toNat = 0 ∨ 65536 < p.size) :
    Calls Try.prog 13 #[.int .u8 c.toNat, .string p, .int .i64 at_, .int .u8 by_] w fun e w' => e = .returned (.bool true) ∧ Below w.heap.size w w' := by
  have HP := Lib.hid hp
  by_cases hc : c.toNat = 0
  · have HC := Lib.hid hc
    clear h hc hp
    by_cases hl : 20000 < p.size
    · have hd : decide ((20000 : Int) < p.size) = true := by simp; omega
      clear hl
      go_enter Try.func13, Try.ntmps13
      go_wp2_with fail
      refine (putf_zero c p _ HC.out HP.out).mono ?_
      rintro e w1 ⟨rfl, hb1⟩
      go_wp2_with fail
      refine (fworks_any _).mono ?_
      rintro e w2 ⟨rfl, hb2⟩
      go_wp2_with fail
      go_ret
      exact ⟨rfl, bel_trans hb1 hb2⟩
    · have hd : decide ((20000 : Int) < p.size) = false := by simp; omega
      clear hl
      go_enter Try.func13, Try.ntmps13
      go_wp2_with fail
      refine (putf_zero c p _ HC.out HP.out).mono ?_
      rintro e w1 ⟨rfl, hb1⟩
      go_wp2_with fail
      refine (fworks_any _).mono ?_
      rintro e w2 ⟨rfl, hb2⟩
      go_wp2_with fail
      go_ret
      exact ⟨rfl, bel_trans hb1 hb2⟩
  · have HC := Lib.hid hc
    have hl : 65536 < p.size := by omega
    have HL := Lib.hid hl
    have hd : decide ((20000 : Int) < p.size) = true := by simp; omega
    clear h hc hp hl
    go_enter Try.func13, Try.ntmps13
    go_wp2_with fail
    refine (putf_long c p _ HC.out HP.out HL.out).mono ?_
    rintro e w1 ⟨rfl, hb1⟩
    go_wp2_with fail
    refine (fworks_any _).mono ?_
    rintro e w2 ⟨rfl, hb2⟩
    go_wp2_with fail
    go_ret
    exact ⟨rfl, bel_trans hb1 hb2⟩

set_option maxHeartbeats 1000000 in
theorem frameTorn_out (c : UInt8) (p : ByteArray) (at_ : Int) (by_ : Int) (w : World) (hc : c.toNat ≠ 0) (hp : p.size ≤ 65536) (h : 20000 < p.size ∨ at_ < 0 ∨ ((Cl.putF c p.data.toList).length : Int) ≤ at_) :
    Calls Try.prog 13 #[.int .u8 c.toNat, .string p, .int .i64 at_, .int .u8 by_] w fun e w' => e = .returned (.bool true) ∧ Below w.heap.size w w' := by
  have HP := Lib.hid hp
  have HC := Lib.hid hc
  obtain ⟨sb, hsb⟩ : ∃ sb : ByteArray, (⟨(Cl.putF c p.data.toList).toArray⟩ : ByteArray) = sb := ⟨_, rfl⟩
  have hsz : sb.size = (Cl.putF c p.data.toList).length := by rw [← hsb, size_mk]
  rw [← hsz] at h
  have HSB := Lib.hid hsb
  clear hc hp hsb hsz
  by_cases hl : 20000 < p.size
  · have hd : decide ((20000 : Int) < p.size) = true := by simp; omega
    clear hl h
    go_enter Try.func13, Try.ntmps13
    go_wp2_with fail
    refine (putf_sb c p sb _ HC.out HP.out HSB.out).mono ?_
    rintro e w1 ⟨rfl, hb1⟩
    go_wp2_with fail
    refine (fworks_any _).mono ?_
    rintro e w2 ⟨rfl, hb2⟩
    go_wp2_with fail
    go_ret
    exact ⟨rfl, bel_trans hb1 hb2⟩
  · have hd : decide ((20000 : Int) < p.size) = false := by simp; omega
    by_cases h0 : at_ < 0
    · clear hl h
      go_enter Try.func13, Try.ntmps13
      go_wp2_with fail
      refine (putf_sb c p sb _ HC.out HP.out HSB.out).mono ?_
      rintro e w1 ⟨rfl, hb1⟩
      go_wp2_with fail
      refine (fworks_any _).mono ?_
      rintro e w2 ⟨rfl, hb2⟩
      go_wp2_with fail
      go_ret
      exact ⟨rfl, bel_trans hb1 hb2⟩
    · have h1 : (sb.size : Int) ≤ at_ := by omega
      have h2 : decide ((sb.size : Int) ≤ at_) = true := by simpa using h1
      clear hl h
      go_enter Try.func13, Try.ntmps13
      go_wp2_with fail
      refine (putf_sb c p sb _ HC.out HP.out HSB.out).mono ?_
      rintro e w1 ⟨rfl, hb1⟩
      go_wp2_with fail
      refine (fworks_any _).mono ?_
      rintro e w2 ⟨rfl, hb2⟩
      go_wp2_with fail
      go_ret
      exact ⟨rfl, bel_trans hb1 hb2⟩

/-- The frame with one byte otherwise, as the statement takes it. -/
theorem torn_says (sb : ByteArray) (k : Nat) (hk : k < sb.size) (c : UInt8) (p : List UInt8) (d : UInt8) (hc : c.toNat ≠ 0) (hp : p.length ≤ 65536) (h : sb.data.toList = Cl.putF c p) :
    ∃ c2 t2 n2 x2, Cl.takeF (sb.data.toList.set k (sb[k] ^^^ d)) = (c2, t2, n2, x2) ∧ (d.toNat = 0 → x2 = 0 ∧ n2 = sb.size) ∧ (d.toNat ≠ 0 → x2 ≠ 0 ∨ n2 < sb.size) := by
  have hlen : (Cl.putF c p).length = sb.size := by rw [← h, len_data]
  have hk2 : k < (Cl.putF c p).length := by omega
  have hat : (Cl.putF c p)[k] = sb[k] := by
    have h1 := str_at sb k hk
    rw [h, List.getElem?_eq_getElem hk2] at h1
    exact Option.some.inj h1
  refine ⟨(Cl.takeF (sb.data.toList.set k (sb[k] ^^^ d))).1, (Cl.takeF (sb.data.toList.set k (sb[k] ^^^ d))).2.1, (Cl.takeF (sb.data.toList.set k (sb[k] ^^^ d))).2.2.1, (Cl.takeF (sb.data.toList.set k (sb[k] ^^^ d))).2.2.2, rfl, fun hd => ?_, fun hd => ?_⟩
  · have hd0 : d = 0 := UInt8.toNat_inj.1 (by simpa using hd)
    have e : sb.data.toList.set k (sb[k] ^^^ d) = Cl.putF c p := by
      rw [hd0, h, ← hat]; simp
    have ht := Cl.takeF_put c p [] hc hp
    rw [List.append_nil] at ht
    rw [e, ht]
    exact ⟨rfl, hlen⟩
  · have hne : (Cl.putF c p)[k] ≠ sb[k] ^^^ d := by
      rw [hat]
      intro e
      have : sb[k] ^^^ sb[k] = sb[k] ^^^ (sb[k] ^^^ d) := by rw [← e]
      rw [← UInt8.xor_assoc, UInt8.xor_self, UInt8.zero_xor] at this
      exact hd (by rw [← this]; rfl)
    have := Cl.takeF_spoilt c p k (sb[k] ^^^ d) hk2 hne
    rw [h, ← hlen]
    exact this

set_option maxHeartbeats 2000000 in
theorem frameTorn_in (c : UInt8) (p : ByteArray) (k : Nat) (d : UInt8) (w : World) (hc : c.toNat ≠ 0) (hp : p.size ≤ 20000) (hk : k < (Cl.putF c p.data.toList).length) :
    Calls Try.prog 13 #[.int .u8 c.toNat, .string p, .int .i64 k, .int .u8 d.toNat] w fun e w' => e = .returned (.bool true) ∧ Below w.heap.size w w' := by
  have hd : decide ((20000 : Int) < p.size) = false := by simp; omega
  have HP := Lib.hid (show p.size ≤ 65536 by omega)
  have HC := Lib.hid hc
  obtain ⟨sb, hsb⟩ : ∃ sb : ByteArray, (⟨(Cl.putF c p.data.toList).toArray⟩ : ByteArray) = sb := ⟨_, rfl⟩
  have hsz : sb.size = (Cl.putF c p.data.toList).length := by rw [← hsb, size_mk]
  have hsd : sb.data.toList = Cl.putF c p.data.toList := by rw [← hsb]
  have hss : sb.size ≤ 30000 := by
    have h1 := Cl.putF_len c p.data.toList
    have h2 := (Cl.putText_len p.data.toList).2
    rw [len_data] at h2
    omega
  have hks : k < sb.size := by omega
  obtain ⟨c2, t2, n2, x2, ht, hz, hnz⟩ := torn_says sb k hks c p.data.toList d hc (by rw [len_data]; omega) hsd
  have hshort := Cl.takeF_short c p.data.toList hc (by rw [len_data]; omega) k hk
  obtain ⟨pb, hpb⟩ : ∃ pb : ByteArray, sb.extract 0 k = pb := ⟨_, rfl⟩
  have hpd : pb.data.toList = (Cl.putF c p.data.toList).take k := by rw [← hpb, Lib.extract_data, hsd]; simp
  rw [← hpd] at hshort
  obtain ⟨c1, t1, n1, x1, ht1⟩ : ∃ c1 t1 n1 x1, Cl.takeF pb.data.toList = (c1, t1, n1, x1) := ⟨_, _, _, _, rfl⟩
  rw [ht1] at hshort
  have hx1 : (x1 == 0) = false := by simpa using hshort
  have HPS : Hid (pb.size ≤ 1000000) := Lib.hid (by rw [← hpb]; simp; omega)
  have HSB := Lib.hid hsb
  have HPB := Lib.hid hpb
  have HT := Lib.hid ht
  have HT1 := Lib.hid ht1
  have HZ := Lib.hid hz
  have HNZ := Lib.hid hnz
  clear hc hp hk hsb hsz hsd ht hz hnz hshort hpb hpd ht1
  go_enter Try.func13, Try.ntmps13
  go_wp2_with fail
  refine (putf_sb c p sb _ HC.out HP.out HSB.out).mono ?_
  rintro e w1 ⟨rfl, hb1⟩
  go_wp2_with fail
  rw [HPB.out]
  refine (takef_tells pb c1 n1 t1 x1 _ HPS.out HT1.out).mono ?_
  rintro e w2 ⟨rfl, hb2⟩
  obtain ⟨cap, w3, hbs, hcl, hfz, hbl, hsz3⟩ := bytes_of_string Try.prog w2 9 48 5 sb Try.underlying9 Try.underlying48 Try.underlying5
  have hck := hcl k hks
  have hfk := hfz k hks
  have hxx := xor_u8 sb[k] d
  rw [UInt8.toNat_xor] at hxx
  have hbk := string_of_bytes Try.prog (w3.setCell ⟨w2.heap.size, k, none⟩ (.int .u8 ((sb[k].toNat ^^^ d.toNat : Nat) : Int))) 48 9 5 w2.heap.size 0 cap sb.size (sb.data.toList.set k (sb[k] ^^^ d)) (by simp) Try.underlying48 Try.underlying5 Try.underlying9 (by
    intro j hj
    have hj' : j < sb.size := by simpa using hj
    rw [Nat.zero_add]
    by_cases e : j = k
    · subst e
      rw [World.cell?_setCell_same _ _ _ hck]
      simp
    · rw [World.cell?_setCell_other _ _ _ _ (by simp only [ne_eq, Addr.mk.injEq]; omega), hcl j hj', List.getElem_set_ne (by omega)]
      rfl)
  have hbl2 : Below w2.heap.size w2 (w3.setCell ⟨w2.heap.size, k, none⟩ (.int .u8 ((sb[k].toNat ^^^ d.toNat : Nat) : Int))) := hbl.setCell (Nat.le_refl _) _
  have HCL := Lib.hid hcl
  have HFZ := Lib.hid hfz
  have HZ3 := Lib.hid hsz3
  clear hcl hfz hsz3
  have HQS : Hid ((⟨(sb.data.toList.set k (sb[k] ^^^ d)).toArray⟩ : ByteArray).size ≤ 1000000) := Lib.hid (by rw [size_mk, List.length_set, len_data]; omega)
  have HQT : Hid (Cl.takeF (⟨(sb.data.toList.set k (sb[k] ^^^ d)).toArray⟩ : ByteArray).data.toList = (c2, t2, n2, x2)) := Lib.hid HT.out
  by_cases hd0 : d.toNat = 0
  · obtain ⟨hx0, hn0⟩ := HZ.out hd0
    subst hx0; subst hn0
    have t1 : ((d.toNat : Int) == 0) = true := by simp; omega
    have t2' : ((d.toNat : Int) != 0) = false := by simp; omega
    clear hd0
    go_wp2_with fail
    refine (takef_tells _ _ _ _ _ _ HQS.out HQT.out).mono ?_
    rintro e w5 ⟨rfl, hb5⟩
    go_wp2_with fail
    refine (fworks_any _).mono ?_
    rintro e w6 ⟨rfl, hb6⟩
    go_wp2_with fail
    go_ret
    exact ⟨rfl, bel_trans hb1 (bel_trans hb2 (bel_trans hbl2 (bel_trans hb5 hb6)))⟩
  · have hor := HNZ.out hd0
    have t1 : ((d.toNat : Int) == 0) = false := by simp; omega
    have t2' : ((d.toNat : Int) != 0) = true := by simp; omega
    by_cases hx0 : x2 = 0
    · subst hx0
      have hn0 : n2 < sb.size := by omega
      clear hd0 hor
      go_wp2_with fail
      refine (takef_tells _ _ _ _ _ _ HQS.out HQT.out).mono ?_
      rintro e w5 ⟨rfl, hb5⟩
      go_wp2_with fail
      refine (fworks_any _).mono ?_
      rintro e w6 ⟨rfl, hb6⟩
      go_wp2_with fail
      go_ret
      exact ⟨rfl, bel_trans hb1 (bel_trans hb2 (bel_trans hbl2 (bel_trans hb5 hb6)))⟩
    · have t3 : (x2 != 0) = true := by simpa using hx0
      clear hd0 hor hx0
      go_wp2_with fail
      refine (takef_tells _ _ _ _ _ _ HQS.out HQT.out).mono ?_
      rintro e w5 ⟨rfl, hb5⟩
      go_wp2_with fail
      refine (fworks_any _).mono ?_
      rintro e w6 ⟨rfl, hb6⟩
      go_wp2_with fail
      go_ret
      exact ⟨rfl, bel_trans hb1 (bel_trans hb2 (bel_trans hbl2 (bel_trans hb5 hb6)))⟩

theorem frameTorn_walk (kd : Int) (p : ByteArray) (at_ by_ : Int) (w0 : (Lit.int .u8 kd).wf = true) (hp : p.size ≤ 140737488351232) (_w2 : (Lit.int .i64 at_).wf = true) (w3 : (Lit.int .u8 by_).wf = true) (w : World) :
    Calls Try.prog 13 #[.int .u8 kd, .string p, .int .i64 at_, .int .u8 by_] w fun e w' => e = .returned (.bool true) ∧ Below w.heap.size w w' := by
  obtain ⟨c, rfl⟩ := u8_of_int kd w0
  by_cases h1 : c.toNat = 0 ∨ 65536 < p.size
  · exact frameTorn_bad c p at_ by_ w hp h1
  · by_cases h2 : 20000 < p.size ∨ at_ < 0 ∨ ((Cl.putF c p.data.toList).length : Int) ≤ at_
    · exact frameTorn_out c p at_ by_ w (by omega) (by omega) h2
    · obtain ⟨k, rfl⟩ : ∃ k : Nat, at_ = k := ⟨at_.toNat, by omega⟩
      obtain ⟨d, rfl⟩ := u8_of_int by_ w3
      exact frameTorn_in c p k d w (by omega) (by omega) (by omega)

end Go.Proofs.Ythnellehndggpaa
