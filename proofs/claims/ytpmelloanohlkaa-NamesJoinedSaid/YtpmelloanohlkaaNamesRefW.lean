/-
  The walk through the reference's Words.
-/
import Derived.Test.YtpmelloanohlkaaNamesPure
import Derived.Test.YtpmelloanohlkaaNamesAts
namespace Go.Proofs.Ytpmelloanohlkaa
open Go.RowKit

theorem any_snoc (l : List Nat) (k r : Nat) (hx : l[k]? = some r) (h : (l.take k).any Cl.bad = false) (hb : Cl.bad r = false) : (l.take (k + 1)).any Cl.bad = false := by
  rw [List.take_add_one, hx, List.any_append, h]; simp [hb]
theorem any_bad (l : List Nat) (k r : Nat) (hx : l[k]? = some r) (hb : Cl.bad r = true) : l.any Cl.bad = true := by
  rw [List.any_eq_true]
  exact ⟨r, List.mem_of_getElem? hx, hb⟩

theorem reads_cells {w : World} {a : Option Addr} {n c : Nat} {cs : List Value} (h : Reads w (.slice a n c) n cs) (hn : cs.length = n) (i : Nat) (x : Value) (hx : cs[i]? = some x) :
    ∃ b o, a = some ⟨b, o, none⟩ ∧ n ≤ c ∧ w.cell? ⟨b, o + i, none⟩ = some x := by
  have hlt := (List.getElem?_eq_some_iff.1 hx).1
  obtain ⟨b, o, k, hv, h1, _, _, hc⟩ := h.some (by omega)
  simp only [Value.slice.injEq] at hv
  obtain ⟨h1', _, h3⟩ := hv
  exact ⟨b, o, h1', by omega, hc i x hx⟩

theorem bw_step (s : ByteArray) (k : Nat) (h : k < s.size) (out : List ByteArray) (word : List UInt8) :
    Cl.bw (s.data.toList.drop k) out word = if s[k].toNat = 32 ∨ s[k].toNat = 9 then Cl.bw (s.data.toList.drop (k + 1)) (if word = [] then out else out ++ [⟨word.toArray⟩]) [] else Cl.bw (s.data.toList.drop (k + 1)) out (word ++ [s[k]]) := by
  have hlen : k < s.data.toList.length := by simpa using h
  rw [List.drop_eq_getElem_cons hlen]
  have e : s.data.toList[k] = s[k] := by simp; rfl
  rw [e]
  conv => lhs; unfold Cl.bw
  unfold Cl.blankB
  simp only [decide_eq_true_eq]

theorem ext_one (s : ByteArray) (k : Nat) (h : k < s.size) : (s.extract k (k + 1)).data.toList = [s[k]] := by
  have hlen : k < s.data.toList.length := by simpa using h
  rw [Lib.extract_data, List.drop_eq_getElem_cons hlen, Nat.add_sub_cancel_left]
  simp; rfl

theorem mk_back (t : ByteArray) : (⟨t.data.toList.toArray⟩ : ByteArray) = t := by simp
theorem data_nil (t : ByteArray) : t.data.toList = [] ↔ t.toList.isEmpty = true := by rw [Lib.toList_data]; simp

/-- Between two bytes. -/
def WordLeft (s : ByteArray) (k : Nat) (out : List ByteArray) (tb : ByteArray) : Prop := Cl.bw (s.data.toList.drop k) out tb.data.toList = Cl.bw s.data.toList [] []
theorem WordLeft.start (s : ByteArray) : WordLeft s 0 [] ⟨#[]⟩ := by unfold WordLeft; rw [List.drop_zero]
theorem WordLeft.plain {s : ByteArray} {k : Nat} {out : List ByteArray} {tb : ByteArray} (h : WordLeft s k out tb) (hk : k < s.size) (h1 : s[k].toNat ≠ 32) (h2 : s[k].toNat ≠ 9) : WordLeft s (k + 1) out (tb ++ s.extract k (k + 1)) := by
  unfold WordLeft at h ⊢
  rw [bw_step s k hk, if_neg (by omega)] at h
  rw [← h, ByteArray.data_append, Array.toList_append, ext_one s k hk]
theorem WordLeft.blank0 {s : ByteArray} {k : Nat} {out : List ByteArray} {tb : ByteArray} (h : WordLeft s k out tb) (hk : k < s.size) (h1 : s[k].toNat = 32 ∨ s[k].toNat = 9) (h0 : tb.toList.isEmpty = true) : WordLeft s (k + 1) out ⟨#[]⟩ := by
  unfold WordLeft at h ⊢
  rw [bw_step s k hk, if_pos h1, if_pos ((data_nil tb).2 h0)] at h
  exact h
theorem WordLeft.blank1 {s : ByteArray} {k : Nat} {out : List ByteArray} {tb : ByteArray} (h : WordLeft s k out tb) (hk : k < s.size) (h1 : s[k].toNat = 32 ∨ s[k].toNat = 9) (h0 : tb.toList.isEmpty = false) : WordLeft s (k + 1) (out ++ [tb]) ⟨#[]⟩ := by
  unfold WordLeft at h ⊢
  rw [bw_step s k hk, if_pos h1, if_neg (by rw [data_nil, h0]; simp), mk_back] at h
  exact h
theorem WordLeft.end0 {s : ByteArray} {k : Nat} {out : List ByteArray} {tb : ByteArray} (h : WordLeft s k out tb) (hk : s.size ≤ k) (h0 : tb.toList.isEmpty = true) : Cl.bw s.data.toList [] [] = out := by
  unfold WordLeft at h
  have hs : s.data.toList.drop k = [] := List.drop_eq_nil_of_le (by simpa using hk)
  rw [← h, hs]
  unfold Cl.bw
  rw [if_pos ((data_nil tb).2 h0)]
theorem WordLeft.end1 {s : ByteArray} {k : Nat} {out : List ByteArray} {tb : ByteArray} (h : WordLeft s k out tb) (hk : s.size ≤ k) (h0 : tb.toList.isEmpty = false) : Cl.bw s.data.toList [] [] = out ++ [tb] := by
  unfold WordLeft at h
  have hs : s.data.toList.drop k = [] := List.drop_eq_nil_of_le (by simpa using hk)
  rw [← h, hs]
  unfold Cl.bw
  rw [if_neg (by rw [data_nil, h0]; simp), mk_back]

set_option maxHeartbeats 4000000 in
theorem refwords_any (s : ByteArray) (w : World) (hs : s.size ≤ 1000000) :
    Calls Try.prog 11 #[.string s] w (WordsSays s w) := by
  obtain ⟨i0, hi0, hz0, hz1, hz2⟩ := info_parts infoStr
  have HW := Lib.hid (Cl.wordsR_bytes s)
  by_cases hl : 400 < s.size
  · have hW : Cl.wordsR s = ([], 3) := by rw [HW.out, if_pos hl]
    have HW := Lib.hid hW
    clear hW
    go_enter Try.func11, Try.ntmps11
    go_wp2_with fail
    go_ret2
    exact words_says HW.out (Reads.nil _) (Below.refl _ _)
  · have hs4 : s.size ≤ 400 := by omega
    have hbadW : (Cl.rs s).any Cl.bad = true → Cl.wordsR s = ([], 10) := fun h => by rw [HW.out, if_neg hl, if_pos h]
    have hgoodW : (Cl.rs s).any Cl.bad = false → Cl.wordsR s = (Cl.bw s.data.toList [] [], 0) := fun h => by rw [HW.out, if_neg hl, if_neg (by rw [h]; simp)]
    have HB := Lib.hid hbadW
    have HG := Lib.hid hgoodW
    clear hbadW hgoodW HW
    have hd : decide ((400 : Int) < s.size) = false := by simp; omega
    have hrl := Cl.runes_length s
    go_enter Try.func11, Try.ntmps11
    go_wp2_with fail
    refine (runes_any s _ hs).mono ?_
    rintro e w1 ⟨lv, av, rfl, hr1, -, hb1⟩
    clear hs hl
    obtain ⟨a1, c1, rfl⟩ := hr1.shape
    have HC := Lib.hid (fun i x (hx : (Cl.runes s)[i]? = some x) => reads_cells hr1 (by simp [runeV]) i (.int .i32 x.2) (by simp [runeV, hx]))
    clear hr1
    obtain ⟨L, hL⟩ : ∃ L, (Cl.runes s).length = L := ⟨_, rfl⟩
    have HL := Lib.hid hL
    rw [hL] at hrl HC ⊢
    clear hL
    go_wp2_with fail
    go_loopw [6] (fun i wr => ∃ k n : Nat, k ≤ L ∧ i = .int .i64 k ∧ wr = w1.drewN n ∧ Hid (((Cl.rs s).take k).any Cl.bad = false)) (fun i _ => L - (intOf i).toNat)
    case atStart => exact ⟨0, 0, Nat.zero_le _, rfl, rfl, Lib.hid (by simp)⟩
    case round =>
      obtain ⟨k, n, hk, rfl, rfl, HT⟩ := hrel
      by_cases hlt : k < L
      · obtain ⟨⟨p, r⟩, hx⟩ : ∃ x, (Cl.runes s)[k]? = some x := ⟨(Cl.runes s)[k]'(by rw [HL.out]; exact hlt), by simp⟩
        obtain ⟨b, o, rfl, hcap, hcell⟩ := HC.out k _ hx
        simp only at hcell
        have HX := Lib.hid (show (Cl.rs s)[k]? = some r by unfold Cl.rs; rw [List.getElem?_map, hx]; rfl)
        clear hx
        by_cases h1 : r = 65533
        · subst h1
          go_wp2_with fail
          go_ret2
          exact words_says (HB.out (any_bad _ _ _ HX.out rfl)) (Reads.nil _) (bel_trans hb1 (bel_drewN _ _))
        · have b1 : ((r : Int) == 65533) = false := by simp; omega
          by_cases h2 : r < 32
          · by_cases h3 : r = 9
            · have HBD := Lib.hid (show Cl.bad r = false by subst h3; decide)
              have b2 : ((r : Int) != 9) = false := by simp; omega
              have b3 : ((r : Int) < 32) := by omega
              clear h1 h2 h3
              go_wp2_with fail
              go_roundw
              case rel => exact ⟨k + 1, n, by omega, by go_num, rfl, Lib.hid (any_snoc _ _ _ HX.out HT.out HBD.out)⟩
              case measure => simp [intOf]; omega
            · have HBD := Lib.hid (show Cl.bad r = true by unfold Cl.bad; simp; omega)
              have b2 : ((r : Int) != 9) = true := by simp; omega
              have b3 : ((r : Int) < 32) := by omega
              clear h1 h2 h3
              go_wp2_with fail
              go_ret2
              exact words_says (HB.out (any_bad _ _ _ HX.out HBD.out)) (Reads.nil _) (bel_trans hb1 (bel_drewN _ _))
          · have HBD := Lib.hid (show Cl.bad r = false by unfold Cl.bad; simp; omega)
            have b3 : ¬ ((r : Int) < 32) := by omega
            clear h1 h2
            go_wp2_with fail
            go_roundw
            case rel => exact ⟨k + 1, n, by omega, by go_num, rfl, Lib.hid (any_snoc _ _ _ HX.out HT.out HBD.out)⟩
            case measure => simp [intOf]; omega
      · have HR := Lib.hid (HG.out (by
          have h := HT.out
          rw [List.take_of_length_le (by rw [Cl.rs_len, HL.out]; omega)] at h
          exact h))
        have hb2 := bel_trans hb1 (bel_drewN w1 n)
        clear HC HT HG HB hb1
        obtain ⟨w2, hw2⟩ : ∃ w2, w1.drewN n = w2 := ⟨_, rfl⟩
        rw [hw2] at hb2 ⊢
        clear hw2
        have hb2 := Lib.hid hb2
        go_wp2_with fail
        go_loopw [7, 8, 9] (fun v t i wr => ∃ (k : Nat) (out : List ByteArray) (tb : ByteArray), k ≤ s.size ∧ i = .int .i64 k ∧ t = .string tb ∧ out.length ≤ k ∧ tb.size ≤ k ∧ Below w2.heap.size w2 wr ∧ wr.ownsRow w2.heap.size 9 1 v out.length (strs out) ∧ Hid (WordLeft s k out tb)) (fun _ _ i _ => s.size - (intOf i).toNat)
        case atStart => exact ⟨0, [], ⟨#[]⟩, Nat.zero_le _, rfl, rfl, by simp, by decide, Below.refl _ _, World.ownsRow_nil _ _ _ _, Lib.hid (WordLeft.start s)⟩
        case round =>
          obtain ⟨k, out, tb, hk, rfl, rfl, hol, htb, hbw, hown, HWL⟩ := hrel
          have hsz := hbw.size
          by_cases hlt2 : k < s.size
          · have hext : (s.extract k (k + 1)).size = 1 := by simp; omega
            by_cases h32 : s[k].toNat = 32 ∨ s[k].toNat = 9
            · cases hem : tb.toList.isEmpty with
              | true =>
                have HN := Lib.hid (HWL.out.blank0 hlt2 h32 hem)
                rcases h32 with h32 | h32
                · have t1 : ((s[k].toNat : Int) == 32) = true := by rw [h32]; rfl
                  have t2 : ((s[k].toNat : Int) == 9) = false := by rw [h32]; rfl
                  clear h32
                  go_wp2_with fail
                  go_roundw
                  case rel => exact ⟨k + 1, out, ⟨#[]⟩, by omega, by go_num, rfl, by omega, Nat.zero_le _, hbw, hown, Lib.hid HN.out⟩
                  case measure => simp [intOf]; omega
                · have t1 : ((s[k].toNat : Int) == 32) = false := by rw [h32]; rfl
                  have t2 : ((s[k].toNat : Int) == 9) = true := by rw [h32]; rfl
                  clear h32
                  go_wp2_with fail
                  go_roundw
                  case rel => exact ⟨k + 1, out, ⟨#[]⟩, by omega, by go_num, rfl, by omega, Nat.zero_le _, hbw, hown, Lib.hid HN.out⟩
                  case measure => simp [intOf]; omega
              | false =>
                have HN := Lib.hid (HWL.out.blank1 hlt2 h32 hem)
                rcases h32 with h32 | h32
                · have t1 : ((s[k].toNat : Int) == 32) = true := by rw [h32]; rfl
                  have t2 : ((s[k].toNat : Int) == 9) = false := by rw [h32]; rfl
                  clear h32
                  go_wp2_with ((at_builtin; refine wpList_append_own _ rfl _ _ 23 rfl w2.heap.size 9 i0 (.string ⟨#[]⟩) 1 16 Try.underlying23 hi0 hz0 hz1 hz2 rfl (by decide) _ _ _ rfl (hown.alloc _) ⟨wr.heap.size, 0, none⟩ 1 1 [.string tb] rfl rfl (cell_one_new _ _ _) (by simp [Value.oneCell']) (by unfold maxLen; omega) (by omega) (by simp; omega) ?_))
                  intro v1 w3 hv1 hg1 _
                  have hb3 := below_pushed hbw hown _ hg1
                  clear hg1 hown hbw
                  go_wp2_with fail
                  go_roundw
                  case rel =>
                    refine ⟨k + 1, out ++ [tb], ⟨#[]⟩, by omega, by go_num, rfl, by simp; omega, Nat.zero_le _, hb3, ?_, Lib.hid HN.out⟩
                    rw [List.length_append, ← strs_snoc]; exact hv1
                  case measure => simp [intOf]; omega
                · have t1 : ((s[k].toNat : Int) == 32) = false := by rw [h32]; rfl
                  have t2 : ((s[k].toNat : Int) == 9) = true := by rw [h32]; rfl
                  clear h32
                  go_wp2_with ((at_builtin; refine wpList_append_own _ rfl _ _ 23 rfl w2.heap.size 9 i0 (.string ⟨#[]⟩) 1 16 Try.underlying23 hi0 hz0 hz1 hz2 rfl (by decide) _ _ _ rfl (hown.alloc _) ⟨wr.heap.size, 0, none⟩ 1 1 [.string tb] rfl rfl (cell_one_new _ _ _) (by simp [Value.oneCell']) (by unfold maxLen; omega) (by omega) (by simp; omega) ?_))
                  intro v1 w3 hv1 hg1 _
                  have hb3 := below_pushed hbw hown _ hg1
                  clear hg1 hown hbw
                  go_wp2_with fail
                  go_roundw
                  case rel =>
                    refine ⟨k + 1, out ++ [tb], ⟨#[]⟩, by omega, by go_num, rfl, by simp; omega, Nat.zero_le _, hb3, ?_, Lib.hid HN.out⟩
                    rw [List.length_append, ← strs_snoc]; exact hv1
                  case measure => simp [intOf]; omega
            · have t1 : ((s[k].toNat : Int) == 32) = false := by simp; omega
              have t2 : ((s[k].toNat : Int) == 9) = false := by simp; omega
              have HN := Lib.hid (HWL.out.plain hlt2 (by omega) (by omega))
              clear h32
              go_wp2_with fail
              go_roundw
              case rel => exact ⟨k + 1, out, _, by omega, by go_num, rfl, by omega, by rw [ByteArray.size_append]; omega, hbw, hown, Lib.hid HN.out⟩
              case measure => simp [intOf]; omega
          · cases hem : tb.toList.isEmpty with
            | true =>
              have HN := Lib.hid (HWL.out.end0 (by omega) hem)
              go_wp2_with fail
              go_ret2
              exact words_says (by rw [HR.out, HN.out]) (Reads.own hown) (bel_trans hb2.out hbw)
            | false =>
              have HN := Lib.hid (HWL.out.end1 (by omega) hem)
              go_wp2_with ((at_builtin; refine wpList_append_own _ rfl _ _ 23 rfl w2.heap.size 9 i0 (.string ⟨#[]⟩) 1 16 Try.underlying23 hi0 hz0 hz1 hz2 rfl (by decide) _ _ _ rfl (hown.alloc _) ⟨wr.heap.size, 0, none⟩ 1 1 [.string tb] rfl rfl (cell_one_new _ _ _) (by simp [Value.oneCell']) (by unfold maxLen; omega) (by omega) (by simp; omega) ?_))
              intro v1 w3 hv1 hg1 _
              have hb3 := below_pushed hbw hown _ hg1
              clear hg1 hown hbw
              go_wp2_with fail
              go_ret2
              refine words_says (by rw [HR.out, HN.out]) ?_ (bel_trans hb2.out hb3)
              rw [List.length_append, ← strs_snoc]; exact Reads.own hv1

end Go.Proofs.Ytpmelloanohlkaa
