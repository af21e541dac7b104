/-
  The walk through the statement NamesJoined.
-/
import Derived.Test.YtpmelloanohlkaaNamesOnly
import Derived.Test.YtpmelloanohlkaaShelf
namespace Go.Proofs.Ytpmelloanohlkaa
open Go.RowKit

namespace Cl
theorem join_encs (k : Nat) (ws : List (List Nat)) : Lib.join (ws.map encs) (encs (List.replicate k 32)) = encs (joinR k ws) := by
  induction ws with
  | nil => rfl
  | cons w ws ih =>
    cases ws with
    | nil => rw [List.map_cons, List.map_nil, Lib.join_one]; rfl
    | cons v l =>
      show _ = encs (w ++ List.replicate k 32 ++ joinR k (v :: l))
      rw [encs_append, encs_append, ← ih]
      simp only [List.map_cons, Lib.join_cons, Lib.joinTail, List.flatten_cons, List.append_assoc]

theorem splitR_sum (l : List Nat) : ∀ cur, ((splitR l cur).map (fun w => w.length + 1)).sum ≤ l.length + cur.length + 1 := by
  induction l with
  | nil =>
    intro cur
    unfold splitR
    split <;> simp
  | cons r l ih =>
    intro cur
    unfold splitR
    have h1 := ih []
    have h2 := ih (cur ++ [r])
    simp only [List.length_nil, List.length_append, List.length_cons] at h1 h2 ⊢
    split
    · split
      · omega
      · simp only [List.map_cons, List.sum_cons]; omega
    · omega

theorem joinR_len (k : Nat) (ws : List (List Nat)) (hk : k ≤ 3) : (joinR k ws).length ≤ 3 * (ws.map (fun w => w.length + 1)).sum := by
  induction ws with
  | nil => simp [joinR]
  | cons w ws ih =>
    cases ws with
    | nil => simp [joinR]; omega
    | cons v l =>
      show (w ++ List.replicate k 32 ++ joinR k (v :: l)).length ≤ _
      simp only [List.length_append, List.length_replicate, List.map_cons, List.sum_cons] at ih ⊢
      omega

theorem rs_le (s : ByteArray) : (rs s).length ≤ s.size := by rw [rs_len]; exact runes_length s

theorem join_le (xs : List (List UInt8)) (sep : List UInt8) (hs : sep.length ≤ 1) : (Lib.join xs sep).length ≤ (xs.map (fun x => x.length + 1)).sum := by
  cases xs with
  | nil => simp [Lib.join_nil]
  | cons x r =>
    rw [Lib.join_cons, List.length_append, List.map_cons, List.sum_cons]
    have : (Lib.joinTail sep r).length ≤ (r.map (fun x => x.length + 1)).sum := by
      unfold Lib.joinTail
      induction r with
      | nil => simp
      | cons y r ih =>
        simp only [List.map_cons, List.flatten_cons, List.length_append, List.sum_cons]
        omega
    omega

theorem encs_sum (ws : List (List Nat)) (h : ∀ w ∈ ws, ∀ r ∈ w, okR r) : ((ws.map encs).map (fun x => x.length + 1)).sum ≤ 4 * (ws.map (fun w => w.length + 1)).sum := by
  induction ws with
  | nil => simp
  | cons w ws ih =>
    have h1 := encs_len_le w (h w (by simp))
    have h2 := ih (fun v hv => h v (by simp [hv]))
    simp only [List.map_cons, List.sum_cons] at h2 ⊢
    omega

theorem okR_32 : okR 32 := by unfold okR; omega
end Cl

/-- strings.Join. -/
theorem sjoin_any (v : Value) (ss : List ByteArray) (sep : ByteArray) (w : World) (hr : Reads w v ss.length (strs ss)) (hb : (Lib.join (ss.map (·.data.toList)) sep.data.toList).length ≤ 100000) (hn : ss.length ≤ 1048576) :
    Calls Try.prog 20 #[v, .string sep] w fun e w' => e = .returned (.string ⟨(Lib.join (ss.map (·.data.toList)) sep.data.toList).toArray⟩) ∧ Below w.heap.size w w' := by
  rcases hr with ⟨a, cap, rfl, h0, _⟩ | ⟨b, off, cap, rfl, hl, hm, hlt, hc⟩
  · have hx0 : ss = [] := List.eq_nil_of_length_eq_zero h0
    subst hx0
    exact (Try.strings_Join_none a cap sep w).mono fun e w' ⟨h1, h2⟩ => ⟨by rw [h1]; rfl, by rw [h2]; exact Below.refl _ _⟩
  · have hc' : ∀ (j : Nat) x, ss[j]? = some x → w.cell? ⟨b, off + j, none⟩ = some (.string x) := fun j x hj => hc j _ (by simp [strs, hj])
    exact Try.strings_Join b off cap ss sep w hc' hlt (by omega) hl (by omega)

theorem srepeat_any (k : Nat) (hk : k = 1 ∨ k = 2 ∨ k = 3) (w : World) :
    Calls Try.prog 21 #[.string ⟨#[32]⟩, .int .i64 k] w fun e w' => e = .returned (.string (Cl.encB (List.replicate k 32))) ∧ Below w.heap.size w w' := by
  rcases hk with rfl | rfl | rfl
  · exact (Try.strings_Repeat_one ⟨#[32]⟩ w).mono fun e w' ⟨h1, h2⟩ => ⟨h1, by rw [h2]; exact Below.refl _ _⟩
  · exact (Try.strings_Repeat_main ⟨#[32]⟩ 2 w (by decide) (by decide) (by decide) (by decide)).mono fun e w' ⟨h1, h2⟩ => ⟨h1, h2⟩
  · exact (Try.strings_Repeat_main ⟨#[32]⟩ 3 w (by decide) (by decide) (by decide) (by decide)).mono fun e w' ⟨h1, h2⟩ => ⟨h1, h2⟩


theorem wordsR_cases (s : ByteArray) : (∃ x : Int, Cl.wordsR s = ([], x) ∧ (x != 0) = true) ∨ (∃ ws : List (List Nat), Cl.wordsR s = (ws.map Cl.encB, 0) ∧ (∀ w ∈ ws, Cl.plainW w) ∧ (∀ w ∈ ws, ∀ r ∈ w, Cl.okR r ∧ Cl.bad r = false) ∧ (ws.map (fun w => w.length + 1)).sum ≤ 401) := by
  rw [Cl.wordsR_is]
  split
  · exact .inl ⟨3, rfl, by decide⟩
  · split
    · exact .inl ⟨10, rfl, by decide⟩
    · rename_i h4 hb
      have hb' : (Cl.rs s).any Cl.bad = false := by simpa using hb
      rw [List.any_eq_false] at hb'
      refine .inr ⟨_, rfl, Cl.splitR_words _ [] (by simp), ?_, ?_⟩
      · intro w hw r hr
        rcases Cl.splitR_mem _ _ _ _ hw hr with h | h
        · exact ⟨Cl.rs_ok s r h, by simpa using hb' r h⟩
        · simp at h
      · have h1 := Cl.splitR_sum (Cl.rs s) []
        have h2 := Cl.rs_le s
        simp only [List.length_nil] at h1
        omega

theorem map_data (ws : List (List Nat)) : (ws.map Cl.encB).map (·.data.toList) = ws.map Cl.encs := by simp [Cl.encB]

theorem sum_len (ws : List (List Nat)) : ws.length ≤ (ws.map (fun w => w.length + 1)).sum := by
  induction ws with
  | nil => simp
  | cons w ws ih => simp only [List.length_cons, List.map_cons, List.sum_cons]; omega

/-- The words of the words, put together. -/
theorem words_joined (k : Nat) (hk : 1 ≤ k) (ws : List (List Nat)) (h1 : ∀ w ∈ ws, Cl.plainW w) (h2 : ∀ w ∈ ws, ∀ r ∈ w, Cl.okR r ∧ Cl.bad r = false) :
    Cl.wordsR (Cl.encB (Cl.joinR k ws)) = if 400 < (Cl.encB (Cl.joinR k ws)).size then ([], 3) else (ws.map Cl.encB, 0) := by
  rw [Cl.wordsR_is]
  have hok : ∀ r ∈ Cl.joinR k ws, Cl.okR r ∧ Cl.bad r = false := by
    intro r hr
    rcases Cl.joinR_mem k ws r hr with rfl | ⟨w, hw, hx⟩
    · exact ⟨Cl.okR_32, by decide⟩
    · exact h2 w hw r hx
  rw [Cl.rs_of _ (fun r hr => (hok r hr).1), Cl.splitR_join k hk ws h1]
  split
  · rfl
  · rw [if_neg]
    rw [Bool.not_eq_true, List.any_eq_false]
    intro r hr
    rw [(hok r hr).2]; simp

theorem sjoin_encs (v : Value) (ws : List (List Nat)) (k : Nat) (hk : k ≤ 3) (w : World) (hr : Reads w v (ws.map Cl.encB).length (strs (ws.map Cl.encB))) (h2 : ∀ w ∈ ws, ∀ r ∈ w, Cl.okR r ∧ Cl.bad r = false) (hs : (ws.map (fun w => w.length + 1)).sum ≤ 401) :
    Calls Try.prog 20 #[v, .string (Cl.encB (List.replicate k 32))] w fun e w' => e = .returned (.string (Cl.encB (Cl.joinR k ws))) ∧ (Cl.encB (Cl.joinR k ws)).size ≤ 5000 ∧ Below w.heap.size w w' := by
  have e1 : Lib.join ((ws.map Cl.encB).map (·.data.toList)) (Cl.encB (List.replicate k 32)).data.toList = Cl.encs (Cl.joinR k ws) := by
    rw [map_data]; exact Cl.join_encs k ws
  have hok : ∀ r ∈ Cl.joinR k ws, Cl.okR r := by
    intro r hr
    rcases Cl.joinR_mem k ws r hr with rfl | ⟨w, hw, hx⟩
    · exact Cl.okR_32
    · exact (h2 w hw r hx).1
  have hl1 := Cl.encs_len_le _ hok
  have hl2 := Cl.joinR_len k ws hk
  have hl3 := sum_len ws
  refine (sjoin_any v _ _ w hr (by rw [e1]; omega) (by rw [List.length_map]; omega)).mono fun e w' ⟨he, hb⟩ => ⟨?_, ?_, hb⟩
  · rw [he, e1]; rfl
  · rw [Cl.encB_size]; omega

theorem sjoin_nl (v : Value) (ws : List (List Nat)) (w : World) (hr : Reads w v (ws.map Cl.encB).length (strs (ws.map Cl.encB))) (h2 : ∀ w ∈ ws, ∀ r ∈ w, Cl.okR r ∧ Cl.bad r = false) (hs : (ws.map (fun w => w.length + 1)).sum ≤ 401) :
    Calls Try.prog 20 #[v, .string ⟨#[10]⟩] w fun e w' => e = .returned (.string ⟨(Lib.join (ws.map Cl.encs) [10]).toArray⟩) ∧ Below w.heap.size w w' := by
  have hl1 := Cl.join_le (ws.map Cl.encs) [10] (by simp)
  have hl2 := Cl.encs_sum ws (fun w hw r hr => (h2 w hw r hr).1)
  have hl3 := sum_len ws
  refine (sjoin_any v _ ⟨#[10]⟩ w hr ?_ (by rw [List.length_map]; omega)).mono fun e w' ⟨he, hb⟩ => ⟨?_, hb⟩
  · rw [map_data]
    show (Lib.join (ws.map Cl.encs) [10]).length ≤ _
    omega
  · rw [he, map_data]

set_option maxHeartbeats 2000000 in
theorem namesJoined_walk0 (s : ByteArray) (n : Nat) (hn : n < 256) (hs : s.size ≤ 140737488351232) (w : World) :
    Calls Try.prog 8 #[.string s, .int .u8 n] w fun e w' => e = .returned (.bool true) ∧ Below w.heap.size w w' := by
  have HS := Lib.hid hs
  rcases wordsR_cases s with ⟨x, hW, hx⟩ | ⟨ws, hW, h1, h2, h3⟩
  · have HW := Lib.hid hW
    clear hW hs hn
    go_enter Try.func8, Try.ntmps8
    go_wp2_with fail
    refine (words_is s _ _ _ HS.out HW.out).mono ?_
    rintro e w1 ⟨v, rfl, hr1, hb1⟩
    clear hr1
    by_cases hl : 5000 < s.size
    · have hd : decide ((5000 : Int) < s.size) = true := by simp; omega
      go_wp2_with fail
      refine (works_any _).mono ?_
      rintro e w2 ⟨rfl, hb2⟩
      go_wp2_with fail
      go_ret
      exact ⟨rfl, bel_trans hb1 hb2⟩
    · have hd : decide ((5000 : Int) < s.size) = false := by simp; omega
      go_wp2_with fail
      refine (works_any _).mono ?_
      rintro e w2 ⟨rfl, hb2⟩
      go_wp2_with fail
      go_ret
      exact ⟨rfl, bel_trans hb1 hb2⟩
  · have HW := Lib.hid hW
    have H1 := Lib.hid h1
    have H2 := Lib.hid h2
    have H3 := Lib.hid h3
    have hk3 : n % 3 + 1 = 1 ∨ n % 3 + 1 = 2 ∨ n % 3 + 1 = 3 := by omega
    have HK := Lib.hid hk3
    have HJ := Lib.hid (words_joined (n % 3 + 1) (by omega) ws h1 h2)
    have h5 : s.size ≤ 400 := by
      have h := hW
      rw [Cl.wordsR_is] at h
      by_cases h4 : 400 < s.size
      · rw [if_pos h4] at h; simp at h
      · omega
    have hd : decide ((5000 : Int) < s.size) = false := by simp; omega
    clear hW h1 h2 h3 hk3 hs h5
    go_enter Try.func8, Try.ntmps8
    go_wp2_with fail
    refine (words_is s _ _ _ HS.out HW.out).mono ?_
    rintro e w1 ⟨v, rfl, hr1, hb1⟩
    go_wp2_with fail
    rw [show ((n : Int) % 3 + 1) = ((n % 3 + 1 : Nat) : Int) by omega]
    obtain ⟨k, hk⟩ : ∃ k, n % 3 + 1 = k := ⟨_, rfl⟩
    rw [hk] at HK HJ ⊢
    clear hk
    have HK3 : Hid (k ≤ 3) := Lib.hid (by have := HK.out; omega)
    refine (srepeat_any k HK.out _).mono ?_
    rintro e w2 ⟨rfl, hb2⟩
    have hr2 := hr1.below hb2
    clear hr1
    go_wp2_with fail
    refine (sjoin_encs v ws k HK3.out _ hr2 H2.out H3.out).mono ?_
    rintro e w3 ⟨rfl, hts, hb3⟩
    have hr3 := hr2.below hb3
    clear hr2
    obtain ⟨t, ht⟩ : ∃ t, Cl.encB (Cl.joinR k ws) = t := ⟨_, rfl⟩
    rw [ht] at HJ hts ⊢
    clear ht
    have HT : Hid (t.size ≤ 140737488351232) := Lib.hid (by omega)
    by_cases h4 : 400 < t.size
    · have hd4 : decide ((400 : Int) < t.size) = true := by simp; omega
      have HWT : Hid (Cl.wordsR t = ([], 3)) := Lib.hid (by rw [HJ.out, if_pos h4])
      clear h4 hts hr3
      go_wp2_with fail
      refine (words_is t [] 3 _ HT.out HWT.out).mono ?_
      rintro e w4 ⟨v2, rfl, hr4, hb4⟩
      clear hr4
      go_wp2_with fail
      refine (works_any _).mono ?_
      rintro e w5 ⟨rfl, hb5⟩
      go_wp2_with fail
      go_ret
      exact ⟨rfl, bel_trans hb1 (bel_trans hb2 (bel_trans hb3 (bel_trans hb4 hb5)))⟩
    · have hd4 : decide ((400 : Int) < t.size) = false := by simp; omega
      have HWT : Hid (Cl.wordsR t = (ws.map Cl.encB, 0)) := Lib.hid (by rw [HJ.out, if_neg h4])
      clear h4 hts
      go_wp2_with fail
      refine (words_is t _ 0 _ HT.out HWT.out).mono ?_
      rintro e w4 ⟨v2, rfl, hr4, hb4⟩
      have hr5 := hr3.below hb4
      clear hr3
      go_wp2_with fail
      refine (sjoin_nl v2 ws _ hr4 H2.out H3.out).mono ?_
      rintro e w5 ⟨rfl, hb5⟩
      have hr6 := hr5.below hb5
      clear hr5 hr4
      go_wp2_with fail
      refine (sjoin_nl v ws _ hr6 H2.out H3.out).mono ?_
      rintro e w6 ⟨rfl, hb6⟩
      clear hr6
      generalize (⟨(Lib.join (ws.map Cl.encs) [10]).toArray⟩ : ByteArray) = u at *
      go_wp2_with fail
      refine (works_any _).mono ?_
      rintro e w7 ⟨rfl, hb7⟩
      go_wp2_with fail
      go_ret
      exact ⟨rfl, bel_trans hb1 (bel_trans hb2 (bel_trans hb3 (bel_trans hb4 (bel_trans hb5 (bel_trans hb6 hb7)))))⟩

theorem namesJoined_walk (s : ByteArray) (b : Int) (hs : s.size ≤ 140737488351232) (hb : (Lit.int .u8 b).wf = true) (w : World) :
    Calls Try.prog 8 #[.string s, .int .u8 b] w fun e w' => e = .returned (.bool true) ∧ Below w.heap.size w w' := by
  have h := bounds_u8 hb
  obtain ⟨n, rfl⟩ : ∃ n : Nat, b = n := ⟨b.toNat, by omega⟩
  exact namesJoined_walk0 s n (by omega) hs w

end Go.Proofs.Ytpmelloanohlkaa
