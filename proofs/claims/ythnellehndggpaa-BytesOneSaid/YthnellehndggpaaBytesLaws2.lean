/-
  The walks through the statements of layer 2: BytesPuts, BytesSizes, BytesOne.
-/
import Derived.Test.YthnellehndggpaaBytesLaws
namespace Go.Proofs.Ythnellehndggpaa
open Go.RowKit

set_option maxHeartbeats 1000000 in
theorem bytesPuts_walk (v : Value) (ns : List Int) (w : World) (hr : Reads w v ns.length (ints ns)) (hi : ∀ n ∈ ns, Cl.In64 n) :
    Calls Try.prog 3 #[v] w fun e w' => e = .returned (.bool true) ∧ Below w.heap.size w w' := by
  obtain ⟨a, c, rfl⟩ := hr.shape
  have HI := Lib.hid hi
  have HR := Lib.hid hr
  clear hi hr
  by_cases hlen : 1000 < ns.length
  · have hd : decide ((1000 : Int) < ns.length) = true := by simp; omega
    clear hlen
    go_enter Try.func3, Try.ntmps3
    go_wp2_with fail
    refine (bworks_any _).mono ?_
    rintro e w1 ⟨rfl, hb1⟩
    go_wp2_with fail
    go_ret
    exact ⟨rfl, hb1⟩
  · have hd : decide ((1000 : Int) < ns.length) = false := by simp; omega
    go_enter Try.func3, Try.ntmps3
    go_wp2_with fail
    refine (putR_any _ ns _ HR.out (by omega) HI.out).mono ?_
    rintro e w1 ⟨rfl, hb1⟩
    go_wp2_with fail
    refine (refput_any _ ns _ (HR.out.below hb1) (by omega) HI.out).mono ?_
    rintro e w2 ⟨rfl, hb2⟩
    go_wp2_with fail
    refine (bworks_any _).mono ?_
    rintro e w3 ⟨rfl, hb3⟩
    go_wp2_with fail
    go_ret
    exact ⟨rfl, bel_trans hb1 (bel_trans hb2 hb3)⟩

theorem in64 {n : Int} (h : (Lit.int .i64 n).wf = true) : Cl.In64 n := bounds_i64 h

theorem far_any (n : Int) (w : World) (h : Cl.In64 n) :
    Calls Try.prog 19 #[.int .i64 n] w fun e w' => e = .returned (.int .u64 (Cl.far n)) ∧ w = w' := by
  have h1 := h.1
  have h2 := h.2
  by_cases hneg : n < 0
  · obtain ⟨k, rfl⟩ : ∃ k : Nat, n = -(k : Int) - 1 := ⟨(-(n + 1)).toNat, by omega⟩
    have hz : Cl.far (-(k : Int) - 1) = k := by unfold Cl.far; rw [if_pos (by omega)]; omega
    rw [hz]
    have hk : (k : Int) ≤ (2 : Int) ^ 63 - 1 := by omega
    have hd : decide (-(k : Int) - 1 < 0) = true := by simp; omega
    have e1 : -(k : Int) - 1 + 1 = -(k : Int) := by omega
    clear h1 h2 h hneg hz
    go_enter Try.func19, Try.ntmps19
    go_wp2_with fail
    go_ret
    exact ⟨rfl, rfl⟩
  · obtain ⟨k, rfl⟩ : ∃ k : Nat, n = k := ⟨n.toNat, by omega⟩
    have hz : Cl.far k = k := by unfold Cl.far; rw [if_neg (by omega)]; omega
    rw [hz]
    have hk : (k : Int) ≤ (2 : Int) ^ 63 - 1 := by omega
    clear h1 h2 h hneg hz
    go_enter Try.func19, Try.ntmps19
    go_wp2_with fail
    go_ret
    exact ⟨rfl, rfl⟩

set_option maxHeartbeats 1000000 in
theorem bytesSizes_walk (a b : Int) (w0 : (Lit.int .i64 a).wf = true) (w1 : (Lit.int .i64 b).wf = true) (w : World) :
    Calls Try.prog 4 #[.int .i64 a, .int .i64 b] w fun e w' => e = .returned (.bool true) ∧ Below w.heap.size w w' := by
  have ha := in64 w0
  have hb := in64 w1
  have la := Cl.vint_len (Cl.zig a)
  have lb := Cl.vint_len (Cl.zig b)
  have sa := size_mk (Cl.vint (Cl.zig a))
  have sb := size_mk (Cl.vint (Cl.zig b))
  have HA := Lib.hid ha
  have HB := Lib.hid hb
  clear ha hb w0 w1
  by_cases hf : Cl.far b < Cl.far a
  · have hm := Cl.vint_mono b a (by omega)
    generalize hva : Cl.vint (Cl.zig a) = va at *
    generalize hvb : Cl.vint (Cl.zig b) = vb at *
    generalize hfa : Cl.far a = fa at *
    generalize hfb : Cl.far b = fb at *
    have HVA := Lib.hid hva
    have HVB := Lib.hid hvb
    have HFA := Lib.hid hfa
    have HFB := Lib.hid hfb
    clear hva hvb hfa hfb
    go_enter Try.func4, Try.ntmps4
    go_wp2_with fail
    refine (put_one_any a _ _ (by simp) HA.out).mono ?_
    rintro e w1 ⟨rfl, hb1⟩
    rw [HVA.out]
    go_wp2_with fail
    refine (put_one_any b _ _ (by simp) HB.out).mono ?_
    rintro e w2 ⟨rfl, hb2⟩
    rw [HVB.out]
    go_wp2_with fail
    refine (far_any a _ HA.out).mono ?_
    rintro e w' ⟨rfl, rfl⟩
    rw [HFA.out]
    go_wp2_with fail
    refine (far_any b _ HB.out).mono ?_
    rintro e w' ⟨rfl, rfl⟩
    rw [HFB.out]
    go_wp2_with fail
    refine (bworks_any _).mono ?_
    rintro e w3 ⟨rfl, hb3⟩
    go_wp2_with fail
    go_ret
    exact ⟨rfl, bel_trans hb1 (bel_trans hb2 hb3)⟩
  · have hm := Cl.vint_mono a b (by omega)
    generalize hva : Cl.vint (Cl.zig a) = va at *
    generalize hvb : Cl.vint (Cl.zig b) = vb at *
    generalize hfa : Cl.far a = fa at *
    generalize hfb : Cl.far b = fb at *
    have HVA := Lib.hid hva
    have HVB := Lib.hid hvb
    have HFA := Lib.hid hfa
    have HFB := Lib.hid hfb
    clear hva hvb hfa hfb
    go_enter Try.func4, Try.ntmps4
    go_wp2_with fail
    refine (put_one_any a _ _ (by simp) HA.out).mono ?_
    rintro e w1 ⟨rfl, hb1⟩
    rw [HVA.out]
    go_wp2_with fail
    refine (put_one_any b _ _ (by simp) HB.out).mono ?_
    rintro e w2 ⟨rfl, hb2⟩
    rw [HVB.out]
    go_wp2_with fail
    refine (far_any a _ HA.out).mono ?_
    rintro e w' ⟨rfl, rfl⟩
    rw [HFA.out]
    go_wp2_with fail
    refine (far_any b _ HB.out).mono ?_
    rintro e w' ⟨rfl, rfl⟩
    rw [HFB.out]
    go_wp2_with fail
    refine (bworks_any _).mono ?_
    rintro e w3 ⟨rfl, hb3⟩
    go_wp2_with fail
    go_ret
    exact ⟨rfl, bel_trans hb1 (bel_trans hb2 hb3)⟩


def PrefixSays (s p : ByteArray) (w : World) (e : Ending) (w' : World) : Prop :=
  (∃ b : Bool, e = .returned (.bool b) ∧ (b = true → ∃ r, s.data.toList = p.data.toList ++ r)) ∧ w = w'

set_option maxHeartbeats 1000000 in
theorem hasPrefix_any (s p : ByteArray) (w : World) :
    Calls Try.prog 20 #[.string s, .string p] w (PrefixSays s p w) := by
  by_cases h : p.size ≤ s.size
  · go_enter Try.func20, Try.ntmps20
    go_wp2
    go_ret
    refine ⟨⟨_, rfl, fun hb => ?_⟩, rfl⟩
    have hb2 : ((s.extract 0 p.size).toList == p.toList) = true := hb
    rw [Lib.toList_data, Lib.toList_data, Lib.extract_data] at hb2
    have hb3 := eq_of_beq hb2
    simp only [List.drop_zero, Nat.sub_zero] at hb3
    exact ⟨s.data.toList.drop p.size, by rw [← hb3, List.take_append_drop]⟩
  · go_enter Try.func20, Try.ntmps20
    go_wp2
    go_ret
    exact ⟨⟨false, rfl, by simp⟩, rfl⟩

set_option maxHeartbeats 1000000 in
theorem bytesOne_walk (a b : Int) (w0 : (Lit.int .i64 a).wf = true) (w1 : (Lit.int .i64 b).wf = true) (w : World) :
    Calls Try.prog 5 #[.int .i64 a, .int .i64 b] w fun e w' => e = .returned (.bool true) ∧ Below w.heap.size w w' := by
  have ha := in64 w0
  have hb := in64 w1
  have la := (Cl.vint_len (Cl.zig a)).2
  have HA := Lib.hid ha
  have HB := Lib.hid hb
  by_cases heq : a = b
  · subst heq
    have sa := size_mk (Cl.vint (Cl.zig a))
    clear ha hb w0 w1
    generalize hva : Cl.vint (Cl.zig a) = va at *
    have HVA := Lib.hid hva
    clear hva
    go_enter Try.func5, Try.ntmps5
    go_wp2_with fail
    refine (put_one_any a _ _ (by simp) HA.out).mono ?_
    rintro e w1 ⟨rfl, hb1⟩
    rw [HVA.out]
    go_wp2_with fail
    refine (put_one_any a _ _ (by simp) HA.out).mono ?_
    rintro e w2 ⟨rfl, hb2⟩
    rw [HVA.out]
    go_wp2_with fail
    refine (bworks_any _).mono ?_
    rintro e w3 ⟨rfl, hb3⟩
    go_wp2_with fail
    go_ret
    exact ⟨rfl, bel_trans hb1 (bel_trans hb2 hb3)⟩
  · have hbeg := fun r => Cl.vint_begins a b r ha hb
    have sa := size_mk (Cl.vint (Cl.zig a))
    have hne : Cl.vint (Cl.zig a) ≠ Cl.vint (Cl.zig b) := fun e => heq (hbeg [] (by rw [e, List.append_nil]))
    have hab : ((a : Int) == b) = false := by simpa using heq
    clear ha hb w0 w1
    generalize hva : Cl.vint (Cl.zig a) = va at *
    generalize hvb : Cl.vint (Cl.zig b) = vb at *
    have HVA := Lib.hid hva
    have HVB := Lib.hid hvb
    have HBEG := Lib.hid (fun r => heq ∘ hbeg r)
    have hnot : ¬ va = vb := hne
    clear hva hvb hbeg hne heq
    go_enter Try.func5, Try.ntmps5
    go_wp2_with fail
    refine (put_one_any a _ _ (by simp) HA.out).mono ?_
    rintro e w1 ⟨rfl, hb1⟩
    rw [HVA.out]
    go_wp2_with fail
    refine (put_one_any b _ _ (by simp) HB.out).mono ?_
    rintro e w2 ⟨rfl, hb2⟩
    rw [HVB.out]
    go_wp2_with fail
    refine (hasPrefix_any ⟨vb.toArray⟩ ⟨va.toArray⟩ _).mono ?_
    rintro e w' ⟨⟨q, rfl, hq⟩, rfl⟩
    have hq2 : q = false := by
      cases q with
      | false => rfl
      | true =>
        obtain ⟨r, hr⟩ := hq rfl
        exact absurd hr (HBEG.out r)
    subst hq2
    clear hq
    go_wp2_with fail
    refine (bworks_any _).mono ?_
    rintro e w3 ⟨rfl, hb3⟩
    go_wp2_with fail
    go_ret
    exact ⟨ret_bool (by simp [hnot]), bel_trans hb1 (bel_trans hb2 hb3)⟩

end Go.Proofs.Ythnellehndggpaa
