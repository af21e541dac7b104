/-
  The walks through bytes.Numbers and its reference.
-/
import Derived.Test.YtllecjhfbojgcaaBytesRef
import Derived.Lib.Strings
namespace Go.Proofs.Ytllecjhfbojgcaa
open Go.RowKit
set_option maxRecDepth 20000

theorem take_says (s : ByteArray) (n : Int) (k : Nat) (x : Int) (w : World) (h : Cl.take s.data.toList = (n, k, x)) :
    Calls Try.prog 85 #[.string s] w fun e w' => e = .returned (.tuple #[.int .i64 n, .int .i64 k, .int .i64 x]) ∧ w = w' := by
  refine (take_any s w).mono fun e w' ht => ?_
  unfold TakeSays at ht
  rw [h] at ht
  exact ht

theorem reftake_says (s : ByteArray) (n : Int) (k : Nat) (x : Int) (w : World) (h : Cl.take s.data.toList = (n, k, x)) :
    Calls Try.prog 99 #[.string s] w fun e w' => e = .returned (.tuple #[.int .i64 n, .int .i64 k, .int .i64 x]) ∧ w = w' := by
  refine (reftake_any s w).mono fun e w' ht => ?_
  unfold TakeSays at ht
  rw [h] at ht
  exact ht

def NumsSays (l : List UInt8) (w : World) (e : Ending) (w' : World) : Prop :=
  ∃ v, e = .returned (.tuple #[v, .int .i64 (Cl.nums l).2]) ∧ Reads w' v (Cl.nums l).1.length (ints (Cl.nums l).1) ∧ Below w.heap.size w w'

theorem nums_says {l : List UInt8} {w w' : World} {v : Value} {r : List Int} {x : Int} (h : (r, x) = Cl.nums l) (hr : Reads w' v r.length (ints r)) (hb : Below w.heap.size w w') : NumsSays l w (.returned (.tuple #[v, .int .i64 x])) w' := by
  refine ⟨v, ?_, ?_, hb⟩
  · rw [← h]
  · rw [← h]; exact hr

theorem infoI64 : (Try.prog.info? 2).map (fun i => (i.zero, i.size, i.bytes)) = some (some (.int .i64 0), 1, 8) := by kernel_rfl

theorem data_nil (t : ByteArray) (h : t.size = 0) : t.data.toList = [] := List.eq_nil_of_length_eq_zero (by rw [len_data]; exact h)
theorem data_ne (t : ByteArray) (h : 0 < t.size) : t.data.toList ≠ [] := by
  intro e
  have := len_data t
  rw [e] at this
  simp at this
  omega

theorem drop_data (t : ByteArray) (k : Nat) : (t.extract k t.size).data.toList = t.data.toList.drop k := by
  rw [Lib.extract_data]
  rw [List.take_of_length_le (by simp)]

theorem extract_size (t : ByteArray) (k : Nat) : (t.extract k t.size).size = t.size - k := by
  simp

set_option maxHeartbeats 1000000 in
theorem numbers_any (s : ByteArray) (w : World) (hs : s.size ≤ 1000000) :
    Calls Try.prog 47 #[.string s] w (NumsSays s.data.toList w) := by
  obtain ⟨i0, hi0, hz0, hz1, hz2⟩ := info_parts infoI64
  go_enter Try.func47, Try.ntmps47
  go_wp2_with fail
  go_loopw [0, 4, 5, 6, 7, 10] (fun t v _ _ _ _ wr => ∃ (tb : ByteArray) (acc : List Int) (f : Nat), t = .string tb ∧ tb.size ≤ 1000000 ∧ acc.length + tb.size ≤ 1000000 ∧ Hid (tb.size < f ∧ Cl.numsA f tb.data.toList acc = Cl.nums s.data.toList) ∧ wr.ownsRow w.heap.size 2 1 v acc.length (ints acc) ∧ Below w.heap.size w wr) (fun t _ _ _ _ _ _ => match t with | .string b => b.size | _ => 0)
  case atStart => exact ⟨s, [], s.size + 1, rfl, hs, by simpa using hs, Lib.hid ⟨by omega, by unfold Cl.nums; rw [len_data]⟩, World.ownsRow_nil _ _ _ _, Below.refl _ _⟩
  case round =>
    obtain ⟨tb, acc, f, rfl, htb, hacc, HF, hown, hb⟩ := hrel
    by_cases hemp : tb.size = 0
    · have ht : tb = ⟨#[]⟩ := by
        have := data_nil tb hemp
        cases tb
        simpa using this
      subst ht
      obtain ⟨f', rfl⟩ : ∃ f', f = f' + 1 := ⟨f - 1, by have := HF.out.1; omega⟩
      have hfin : (acc, (0 : Int)) = Cl.nums s.data.toList := by rw [← HF.out.2]; exact (Cl.numsA_nil f' acc).symm
      have HN := Lib.hid hfin
      clear hfin
      go_wp2_with fail
      go_ret2
      exact nums_says HN.out (Reads.own hown) hb
    · obtain ⟨f', rfl⟩ : ∃ f', f = f' + 1 := ⟨f - 1, by have := HF.out.1; omega⟩
      have hne := data_ne tb (by omega)
      obtain ⟨n, k, x, hnk⟩ : ∃ n k x, Cl.take tb.data.toList = (n, k, x) := ⟨_, _, _, rfl⟩
      have HT := Lib.hid hnk
      have hem : (!tb.toList.isEmpty) = true := by rw [Lib.toList_data]; simpa using hne
      have HNE := Lib.hid hne
      clear hne hnk
      go_wp2_with fail
      refine (take_says tb n k x _ HT.out).mono ?_
      rintro e w' ⟨rfl, rfl⟩
      by_cases hx : x = 0
      · subst hx
        obtain ⟨-, hkl, hk1, -, -, -, -, hn1, hn2⟩ := Cl.take_ok _ _ _ HT.out
        rw [len_data] at hkl
        have hstep := Cl.numsA_ok f' tb.data.toList acc HNE.out (by rw [HT.out])
        rw [HT.out] at hstep
        simp only at hstep
        rw [HF.out.2] at hstep
        have HS := Lib.hid hstep
        clear hstep hn1 hn2
        have hacl : acc.length + 1 ≤ 1000000 := by omega
        have HACL := Lib.hid hacl
        have HACC := Lib.hid hacc
        have HTB := Lib.hid htb
        have HK1 := Lib.hid hk1
        have HHS := Lib.hid hs
        have HEMP := Lib.hid hemp
        clear hacl hacc htb hs hk1 hemp
        go_wp2_with ((at_builtin; refine wpList_append_own _ rfl _ _ 102 rfl w.heap.size 2 i0 (.int .i64 0) 1 8 Try.underlying102 hi0 hz0 hz1 hz2 rfl (by decide) _ _ _ rfl (hown.alloc _) ⟨wr.heap.size, 0, none⟩ 1 1 [.int .i64 n] rfl rfl ?c1 ?c2 ?c3 ?c4 ?c5 ?_))
        case c1 => exact cell_one_new _ _ _
        case c2 => simp [Value.oneCell']
        case c3 => have := HACL.out; unfold maxLen; omega
        case c4 => have := HACL.out; omega
        case c5 => have := hb.size; simp; omega
        intro v' w' hown' hgr _
        have hb' := below_pushed hb hown _ hgr
        clear hgr
        have hsz := extract_size tb k
        go_wp2
        go_roundw
        case rel =>
          refine ⟨tb.extract k tb.size, acc ++ [n], f', rfl, by rw [extract_size]; have := HTB.out; omega, by rw [extract_size, List.length_append]; have := HACC.out; have := HK1.out; simp; omega, Lib.hid ⟨?_, ?_⟩, ?_, hb'⟩
          · rw [extract_size]; have := HF.out.1; have := HK1.out; omega
          · rw [drop_data]; exact HS.out.symm
          · rw [List.length_append, ← ints_snoc]; exact hown'
        case measure => have := HK1.out; simp; omega
      · have hxb : (x != 0) = true := by simpa using hx
        have hbad := Cl.numsA_bad f' tb.data.toList acc HNE.out (by rw [HT.out]; exact hx)
        rw [HT.out] at hbad
        rw [HF.out.2] at hbad
        have HN := Lib.hid hbad
        clear hbad hx
        go_wp2_with fail
        go_ret2
        exact nums_says HN.out.symm (Reads.nil _) hb


set_option maxHeartbeats 1000000 in
theorem refnumbers_any (s : ByteArray) (w : World) (hs : s.size ≤ 1000000) :
    Calls Try.prog 64 #[.string s] w (NumsSays s.data.toList w) := by
  obtain ⟨i0, hi0, hz0, hz1, hz2⟩ := info_parts infoI64
  go_enter Try.func64, Try.ntmps64
  go_wp2_with fail
  go_loopw [4, 5, 6, 7, 8, 13] (fun v i _ _ _ _ wr => ∃ (p : Nat) (acc : List Int) (f : Nat), i = .int .i64 p ∧ p ≤ s.size ∧ acc.length ≤ p ∧ Hid (s.size - p < f ∧ Cl.numsA f (s.data.toList.drop p) acc = Cl.nums s.data.toList) ∧ wr.ownsRow w.heap.size 2 1 v acc.length (ints acc) ∧ Below w.heap.size w wr) (fun _ i _ _ _ _ _ => s.size - (intOf i).toNat)
  case atStart => exact ⟨0, [], s.size + 1, rfl, by omega, by simp, Lib.hid ⟨by omega, by unfold Cl.nums; rw [len_data]; rfl⟩, World.ownsRow_nil _ _ _ _, Below.refl _ _⟩
  case round =>
    obtain ⟨p, acc, f, rfl, hp, hacc, HF, hown, hb⟩ := hrel
    obtain ⟨f', rfl⟩ : ∃ f', f = f' + 1 := ⟨f - 1, by have := HF.out.1; omega⟩
    by_cases hemp : p < s.size
    · obtain ⟨tb, htb⟩ : ∃ tb : ByteArray, s.extract p s.size = tb := ⟨_, rfl⟩
      have htd : tb.data.toList = s.data.toList.drop p := by rw [← htb, drop_data]
      have hts : tb.size = s.size - p := by rw [← htb, extract_size]
      have hne := data_ne tb (by omega)
      have hf2 := HF.out
      rw [← htd] at hf2
      obtain ⟨n, k, x, hnk⟩ : ∃ n k x, Cl.take tb.data.toList = (n, k, x) := ⟨_, _, _, rfl⟩
      have HT := Lib.hid hnk
      have HNE := Lib.hid hne
      have HTD := Lib.hid htd
      have HTS := Lib.hid hts
      have HTB := Lib.hid htb
      have HF2 := Lib.hid hf2
      clear hne hnk htd hts htb hf2 HF
      go_wp2_with fail
      rw [HTB.out]
      refine (reftake_says tb n k x _ HT.out).mono ?_
      rintro e w' ⟨rfl, rfl⟩
      by_cases hx : x = 0
      · subst hx
        obtain ⟨-, hkl, hk1, -, -, -, -, hn1, hn2⟩ := Cl.take_ok _ _ _ HT.out
        rw [len_data, HTS.out] at hkl
        have hstep := Cl.numsA_ok f' tb.data.toList acc HNE.out (by rw [HT.out])
        rw [HT.out] at hstep
        simp only at hstep
        rw [HF2.out.2] at hstep
        have HS := Lib.hid hstep
        clear hstep hn1 hn2
        have hpk : p + k ≤ s.size := by omega
        clear hkl
        go_wp2_with ((at_builtin; refine wpList_append_own _ rfl _ _ 102 rfl w.heap.size 2 i0 (.int .i64 0) 1 8 Try.underlying102 hi0 hz0 hz1 hz2 rfl (by decide) _ _ _ rfl (hown.alloc _) ⟨wr.heap.size, 0, none⟩ 1 1 [.int .i64 n] rfl rfl ?c1 ?c2 ?c3 ?c4 ?c5 ?_))
        case c1 => exact cell_one_new _ _ _
        case c2 => simp [Value.oneCell']
        case c3 => unfold maxLen; omega
        case c4 => omega
        case c5 => have := hb.size; simp; omega
        intro v' w' hown' hgr _
        have hb' := below_pushed hb hown _ hgr
        clear hgr
        go_wp2
        go_roundw
        case rel =>
          refine ⟨p + k, acc ++ [n], f', by go_num, hpk, by rw [List.length_append]; simp; omega, Lib.hid ⟨?_, ?_⟩, ?_, hb'⟩
          · have := HF2.out.1; omega
          · rw [← List.drop_drop, ← HTD.out]; exact HS.out.symm
          · rw [List.length_append, ← ints_snoc]; exact hown'
        case measure => simp [intOf]; omega
      · have hxb : (x != 0) = true := by simpa using hx
        have hbad := Cl.numsA_bad f' tb.data.toList acc HNE.out (by rw [HT.out]; exact hx)
        rw [HT.out] at hbad
        rw [HF2.out.2] at hbad
        have HN := Lib.hid hbad
        clear hbad hx
        go_wp2_with fail
        go_ret2
        exact nums_says HN.out.symm (Reads.nil _) hb
    · have hd : s.data.toList.drop p = [] := List.drop_of_length_le (by rw [len_data]; omega)
      have hfin : (acc, (0 : Int)) = Cl.nums s.data.toList := by rw [← HF.out.2, hd]; exact (Cl.numsA_nil f' acc).symm
      have HN := Lib.hid hfin
      clear hfin hd
      go_wp2_with fail
      go_ret2
      exact nums_says HN.out (Reads.own hown) hb

end Go.Proofs.Ytllecjhfbojgcaa
