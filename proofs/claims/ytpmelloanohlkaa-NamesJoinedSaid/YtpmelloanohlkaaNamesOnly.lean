/-
  The walks through the statements NamesNames, NamesOnly, NamesWords.
-/
import Derived.Test.YtpmelloanohlkaaNamesRefW
import Derived.Test.YtpmelloanohlkaaNamesRef3
namespace Go.Proofs.Ytpmelloanohlkaa
open Go.RowKit

namespace Cl
theorem encs_len_le (l : List Nat) : (∀ r ∈ l, okR r) → (encs l).length ≤ 4 * l.length := by
  induction l with
  | nil => intro _; simp [encs_nil]
  | cons r l ih =>
    intro h
    have h1 := (enc_len r (h r (by simp))).2
    have h2 := ih (fun x hx => h x (by simp [hx]))
    rw [encs_cons, List.length_append, List.length_cons]
    omega
theorem encB_size (l : List Nat) : (encB l).size = (encs l).length := by simp [encB, ByteArray.size]
theorem nameR_len (l : List Nat) (h : nameR l = true) : 0 < l.length ∧ l.length ≤ 24 := by
  unfold nameR at h
  simp only [Bool.and_eq_true, decide_eq_true_eq] at h
  exact h.1.1
theorem nameR_later (l : List Nat) (h : nameR l = true) : ∀ r ∈ l, later r = true := by
  unfold nameR at h
  simp only [Bool.and_eq_true, List.all_eq_true] at h
  exact h.2
theorem name_size (s : ByteArray) (h : name s = true) : s.size ≤ 96 := by
  have h1 := name_none s h
  rw [name_rs] at h
  have h2 := encs_len_le (rs s) (rs_ok s)
  have h3 := nameR_len _ h
  rw [rs_enc s h1] at h2
  have e : s.data.toList.length = s.size := by simp
  omega
theorem later_good (r : Nat) (h : later r = true) : bad r = false ∧ blank r = false := by
  unfold later letter at h
  unfold bad blank
  simp at h ⊢
  omega
theorem words_name (s : ByteArray) (h : name s = true) : wordsR s = ([s], 0) := by
  have hn := name_none s h
  have hsz := name_size s h
  rw [wordsR_is, if_neg (by omega)]
  have hR := h
  rw [name_rs] at hR
  have hl := nameR_later _ hR
  have hp := (nameR_len _ hR).1
  rw [if_neg (by
    rw [Bool.not_eq_true, List.any_eq_false]
    intro r hr
    rw [(later_good r (hl r hr)).1]; simp)]
  have := splitR_plain (rs s) [] [] (fun r hr => (later_good r (hl r hr)).2)
  rw [List.append_nil, List.nil_append] at this
  rw [this]
  unfold splitR
  rw [if_neg (by intro e; rw [e] at hp; simp at hp)]
  simp [rs_encB s hn]

theorem turned_is (s : ByteArray) : turned s = if name (encB (rs s).reverse) = true then encB (rs s).reverse else s := by
  unfold turned
  rw [turn_is]
theorem rs_turn (s : ByteArray) : rs (encB (rs s).reverse) = (rs s).reverse := rs_of _ (fun r hr => rs_ok s r (by simpa using hr))
theorem turned_name (s : ByteArray) (h : name s = true) : name (turned s) = true := by
  rw [turned_is]
  split
  · assumption
  · exact h
theorem turned_turned (s : ByteArray) (h : name s = true) : turned (turned s) = s := by
  by_cases ht : name (encB (rs s).reverse) = true
  · have e : turned s = encB (rs s).reverse := by rw [turned_is, if_pos ht]
    rw [e, turned_is, rs_turn, List.reverse_reverse, rs_encB s (name_none s h), if_pos h]
  · have e : turned s = s := by rw [turned_is, if_neg ht]
    rw [e, e]
theorem turned_many (s : ByteArray) : (runes (turned s)).length = (runes s).length := by
  rw [turned_is]
  split
  · rw [← rs_len, rs_turn, List.length_reverse, rs_len]
  · rfl
end Cl

set_option maxHeartbeats 1000000 in
theorem namesNames_walk (s : ByteArray) (hs : s.size ≤ 140737488351232) (w : World) :
    Calls Try.prog 5 #[.string s] w fun e w' => e = .returned (.bool true) ∧ Below w.heap.size w w' := by
  by_cases hl : 5000 < s.size
  · have hd : decide ((5000 : Int) < s.size) = true := by simp; omega
    clear hl hs
    go_enter Try.func5, Try.ntmps5
    go_wp2_with fail
    refine (works_any _).mono ?_
    rintro e w1 ⟨rfl, hb1⟩
    go_wp2_with fail
    go_ret
    exact ⟨rfl, hb1⟩
  · have hd : decide ((5000 : Int) < s.size) = false := by simp; omega
    have HS := Lib.hid (show s.size ≤ 1000000 by omega)
    have HS2 := Lib.hid hs
    clear hl hs
    cases hn : Cl.name s with
    | false =>
      have HN := Lib.hid hn
      clear hn
      go_enter Try.func5, Try.ntmps5
      go_wp2_with fail
      refine (runes_any s _ HS.out).mono ?_
      rintro e w1 ⟨lv, av, rfl, hr1, -, hb1⟩
      obtain ⟨a1, c1, rfl⟩ := hr1.shape
      clear hr1
      go_wp2_with fail
      refine (turned_no s _ HS2.out HN.out).mono ?_
      rintro e w2 ⟨rfl, hb2⟩
      go_wp2_with fail
      refine (name_is s false _ HS2.out HN.out).mono ?_
      rintro e w3 ⟨rfl, hb3⟩
      go_wp2_with fail
      refine (refname_is s false _ HS.out HN.out).mono ?_
      rintro e w4 ⟨rfl, hb4⟩
      go_wp2_with fail
      refine (many_any s _ HS2.out).mono ?_
      rintro e w5 ⟨rfl, hb5⟩
      generalize (Cl.runes s).length = L at *
      go_wp2_with fail
      refine (refname_is s false _ HS.out HN.out).mono ?_
      rintro e w6 ⟨rfl, hb6⟩
      go_wp2_with fail
      refine (works_any _).mono ?_
      rintro e w7 ⟨rfl, hb7⟩
      go_wp2_with fail
      go_ret
      exact ⟨rfl, bel_trans hb1 (bel_trans hb2 (bel_trans hb3 (bel_trans hb4 (bel_trans hb5 (bel_trans hb6 hb7)))))⟩
    | true =>
      have HN := Lib.hid hn
      clear hn
      go_enter Try.func5, Try.ntmps5
      go_wp2_with fail
      refine (runes_any s _ HS.out).mono ?_
      rintro e w1 ⟨lv, av, rfl, hr1, -, hb1⟩
      obtain ⟨a1, c1, rfl⟩ := hr1.shape
      clear hr1
      go_wp2_with fail
      refine (turned_ok s _ HS2.out HN.out).mono ?_
      rintro e w2 ⟨rfl, hb2⟩
      go_wp2_with fail
      refine (name_is s true _ HS2.out HN.out).mono ?_
      rintro e w3 ⟨rfl, hb3⟩
      go_wp2_with fail
      refine (refname_is s true _ HS.out HN.out).mono ?_
      rintro e w4 ⟨rfl, hb4⟩
      go_wp2_with fail
      refine (many_any s _ HS2.out).mono ?_
      rintro e w5 ⟨rfl, hb5⟩
      generalize (Cl.runes s).length = L at *
      go_wp2_with fail
      refine (refname_is s true _ HS.out HN.out).mono ?_
      rintro e w6 ⟨rfl, hb6⟩
      go_wp2_with fail
      refine (refturned_ok s _ HS.out HN.out).mono ?_
      rintro e w7 ⟨rfl, hb7⟩
      generalize Cl.turned s = t at *
      go_wp2_with fail
      refine (works_any _).mono ?_
      rintro e w8 ⟨rfl, hb8⟩
      go_wp2_with fail
      go_ret
      exact ⟨rfl, bel_trans hb1 (bel_trans hb2 (bel_trans hb3 (bel_trans hb4 (bel_trans hb5 (bel_trans hb6 (bel_trans hb7 hb8))))))⟩

theorem words_one (s : ByteArray) (w : World) (hs : s.size ≤ 140737488351232) (h : Cl.wordsR s = ([s], 0)) :
    Calls Try.prog 10 #[.string s] w fun e w' => ∃ b o c, e = .returned (.tuple #[.slice (some ⟨b, o, none⟩) 1 c, .int .i64 0]) ∧ 1 ≤ c ∧ w'.cell? ⟨b, o, none⟩ = some (.string s) ∧ b < w'.heap.size ∧ Below w.heap.size w w' := by
  refine (words_is s [s] 0 w hs h).mono fun e w' ⟨v, he, hr, hb⟩ => ?_
  obtain ⟨b, o, c, hv, h1, _, h3, hc⟩ := hr.some (by simp)
  subst hv
  have := hc 0 (.string s) (by simp [strs])
  exact ⟨b, o, c, he, by simpa using h1, by simpa using this, h3, hb⟩

set_option maxHeartbeats 1000000 in
theorem namesOnly_walk (s : ByteArray) (hs : s.size ≤ 140737488351232) (w : World) :
    Calls Try.prog 6 #[.string s] w fun e w' => e = .returned (.bool true) ∧ Below w.heap.size w w' := by
  by_cases hl : 5000 < s.size
  · have hd : decide ((5000 : Int) < s.size) = true := by simp; omega
    clear hl hs
    go_enter Try.func6, Try.ntmps6
    go_wp2_with fail
    refine (works_any _).mono ?_
    rintro e w1 ⟨rfl, hb1⟩
    go_wp2_with fail
    go_ret
    exact ⟨rfl, hb1⟩
  · have hd : decide ((5000 : Int) < s.size) = false := by simp; omega
    have HS := Lib.hid (show s.size ≤ 140737488351232 by omega)
    clear hl hs
    cases hn : Cl.name s with
    | false =>
      have HN := Lib.hid hn
      clear hn
      go_enter Try.func6, Try.ntmps6
      go_wp2_with fail
      refine (name_is s false _ HS.out HN.out).mono ?_
      rintro e w1 ⟨rfl, hb1⟩
      go_wp2_with fail
      refine (works_any _).mono ?_
      rintro e w2 ⟨rfl, hb2⟩
      go_wp2_with fail
      go_ret
      exact ⟨rfl, bel_trans hb1 hb2⟩
    | true =>
      have HN := Lib.hid hn
      have HW := Lib.hid (Cl.words_name s hn)
      have HT := Lib.hid (Cl.turned_name s hn)
      have HTT := Lib.hid (Cl.turned_turned s hn)
      have HM := Lib.hid (Cl.turned_many s)
      have HZ := Lib.hid (Cl.name_size _ HT.out)
      clear hn
      obtain ⟨t, ht⟩ : ∃ t, Cl.turned s = t := ⟨_, rfl⟩
      rw [ht] at HT HTT HM HZ
      have HTS : Hid (t.size ≤ 140737488351232) := Lib.hid (by have := HZ.out; omega)
      have HE := Lib.hid ht
      clear ht
      go_enter Try.func6, Try.ntmps6
      go_wp2_with fail
      refine (name_is s true _ HS.out HN.out).mono ?_
      rintro e w1 ⟨rfl, hb1⟩
      go_wp2_with fail
      refine (words_one s _ HS.out HW.out).mono ?_
      rintro e w2 ⟨b, o, c, rfl, hc1, hcell, hlt, hb2⟩
      go_wp2_with fail
      refine (turned_ok s _ HS.out HN.out).mono ?_
      rintro e w3 ⟨rfl, hb3⟩
      rw [HE.out]
      go_wp2_with fail
      refine (turned_ok t _ HTS.out HT.out).mono ?_
      rintro e w4 ⟨rfl, hb4⟩
      rw [HTT.out]
      have hcell3 := (hb3.cell (p := ⟨b, o, none⟩) hlt).trans hcell
      have hcell4 := (hb4.cell (p := ⟨b, o, none⟩) (by have := hb3.size; simp; omega)).trans hcell3
      clear hcell hcell3
      go_wp2_with fail
      refine (many_is t _ _ HTS.out HM.out).mono ?_
      rintro e w5 ⟨rfl, hb5⟩
      go_wp2_with fail
      refine (many_any s _ HS.out).mono ?_
      rintro e w6 ⟨rfl, hb6⟩
      generalize (Cl.runes s).length = L at *
      go_wp2_with fail
      refine (works_any _).mono ?_
      rintro e w7 ⟨rfl, hb7⟩
      go_wp2_with fail
      go_ret
      exact ⟨rfl, bel_trans hb1 (bel_trans hb2 (bel_trans hb3 (bel_trans hb4 (bel_trans hb5 (bel_trans hb6 hb7)))))⟩

theorem refwords_is (s : ByteArray) (r : List ByteArray) (x : Int) (w : World) (hs : s.size ≤ 1000000) (h : Cl.wordsR s = (r, x)) :
    Calls Try.prog 11 #[.string s] w fun e w' => ∃ v, e = .returned (.tuple #[v, .int .i64 x]) ∧ Reads w' v r.length (strs r) ∧ Below w.heap.size w w' := by
  refine (refwords_any s w hs).mono fun e w' ht => ?_
  unfold WordsSays at ht
  rw [h] at ht
  exact ht

set_option maxHeartbeats 1000000 in
theorem namesWords_walk (s : ByteArray) (hs : s.size ≤ 140737488351232) (w : World) :
    Calls Try.prog 3 #[.string s] w fun e w' => e = .returned (.bool true) ∧ Below w.heap.size w w' := by
  by_cases hl : 5000 < s.size
  · have hd : decide ((5000 : Int) < s.size) = true := by simp; omega
    clear hl hs
    go_enter Try.func3, Try.ntmps3
    go_wp2_with fail
    refine (works_any _).mono ?_
    rintro e w1 ⟨rfl, hb1⟩
    go_wp2_with fail
    go_ret
    exact ⟨rfl, hb1⟩
  · have hd : decide ((5000 : Int) < s.size) = false := by simp; omega
    have HS := Lib.hid (show s.size ≤ 1000000 by omega)
    have HS2 := Lib.hid hs
    clear hl hs
    obtain ⟨r, x, hW⟩ : ∃ r x, Cl.wordsR s = (r, x) := ⟨_, _, rfl⟩
    have HW := Lib.hid hW
    clear hW
    go_enter Try.func3, Try.ntmps3
    go_wp2_with fail
    refine (words_is s r x _ HS2.out HW.out).mono ?_
    rintro e w1 ⟨v1, rfl, hr1, hb1⟩
    go_wp2_with fail
    refine (refwords_is s r x _ HS.out HW.out).mono ?_
    rintro e w2 ⟨v2, rfl, hr2, hb2⟩
    have hr1 := hr1.below hb2
    go_wp2_with fail
    refine (eqStrs_any _ _ r r _ hr1 hr2).mono ?_
    rintro e w' ⟨rfl, n1, rfl⟩
    rw [decide_eq_true rfl]
    clear hr1 hr2
    go_wp2_with fail
    refine (works_any _).mono ?_
    rintro e w4 ⟨rfl, hb4⟩
    go_wp2_with fail
    go_ret
    exact ⟨rfl, bel_trans hb1 (bel_trans hb2 (bel_trans (bel_drewN _ _) hb4))⟩

end Go.Proofs.Ytpmelloanohlkaa
