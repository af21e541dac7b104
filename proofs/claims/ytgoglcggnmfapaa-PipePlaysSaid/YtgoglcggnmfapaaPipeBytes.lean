/-
  Bytes and the reference's Bytes walked.
-/
import Derived.Test.YtgoglcggnmfapaaPipeWorks
import Derived.Test.YtgoglcggnmfapaaBytesRef
namespace Go.Proofs.Ytgoglcggnmfapaa
open Go.RowKit Go.Conc

/-- bytes.Put of a slice. -/
def recNums (l : List (Int × Int × Int)) : List Int := l.flatMap fun r => [r.1, r.2.1, r.2.2]
def msgNums (m : MsgP) : List Int := [m.seq, m.bar, (m.l.length : Int)] ++ recNums m.l
def msgBytes (m : MsgP) : List UInt8 := Cl.put (msgNums m)
/-- All numbers of a message are int64. -/
def In64M (m : MsgP) : Prop := Cl.In64 m.seq ∧ Cl.In64 m.bar ∧ ∀ r ∈ m.l, Cl.In64 r.1 ∧ Cl.In64 r.2.1 ∧ Cl.In64 r.2.2

theorem recNums_snoc (l : List (Int × Int × Int)) (k : Nat) (r : Int × Int × Int) (h : l[k]? = some r) : recNums (l.take (k + 1)) = recNums (l.take k) ++ [r.1, r.2.1, r.2.2] := by
  rw [take_snoc_of l k r h]; simp [recNums]
theorem recNums_len (l : List (Int × Int × Int)) : (recNums l).length = 3 * l.length := by
  induction l with
  | nil => rfl
  | cons r l ih =>
    have e : recNums (r :: l) = [r.1, r.2.1, r.2.2] ++ recNums l := rfl
    rw [e, List.length_append, ih]
    simp; omega

set_option maxHeartbeats 2000000 in
theorem pbytes_bad (m : MsgP) (lv : Value) (w : World) (hr : Reads w lv m.l.length (recCells m.l)) (hm : mayB m = false) :
    Calls Try.prog 21 #[.agg #[.int .i64 m.seq, .int .i64 m.bar, lv]] w fun e w' => e = .returned (.tuple #[.string ⟨#[]⟩, .int .i64 2]) ∧ Below w.heap.size w w' := by
  have HR := Lib.hid (hr.below (bel_alloc w (.cells #[.int .i64 m.seq, .int .i64 m.bar, lv] 33)))
  obtain ⟨a, c, rfl⟩ := hr.shape
  have HM := Lib.hid hm
  clear hr hm
  go_enter Try.func21, Try.ntmps21
  go_wp2_with fail
  refine (may_any m _ _ HR.out).mono ?_
  rintro e w1 ⟨rfl, hb1⟩
  rw [HM.out]
  go_wp2_with fail
  go_ret2
  exact ⟨rfl, bel_trans (bel_alloc _ _) hb1⟩

set_option maxHeartbeats 2000000 in
theorem pbytes_ok (m : MsgP) (lv : Value) (w : World) (hr : Reads w lv m.l.length (recCells m.l)) (hm : mayB m = true) (hi : In64M m) (hn : m.l.length ≤ 4000) :
    Calls Try.prog 21 #[.agg #[.int .i64 m.seq, .int .i64 m.bar, lv]] w fun e w' => e = .returned (.tuple #[.string ⟨(msgBytes m).toArray⟩, .int .i64 0]) ∧ Below w.heap.size w w' := by
  have HR := Lib.hid (hr.below (bel_alloc w (.cells #[.int .i64 m.seq, .int .i64 m.bar, lv] 33)))
  obtain ⟨a, c, rfl⟩ := hr.shape
  have HM := Lib.hid hm
  have HI := Lib.hid hi
  have HR0 := Lib.hid hr
  have H3 : Hid (∀ n ∈ [m.seq, m.bar, (m.l.length : Int)], Cl.In64 n) := Lib.hid (by
    intro n hn'
    simp only [List.mem_cons, List.not_mem_nil, or_false] at hn'
    rcases hn' with rfl | rfl | rfl
    · exact hi.1
    · exact hi.2.1
    · unfold Cl.In64; omega)
  have hmb : msgBytes m = Cl.put [m.seq, m.bar, (m.l.length : Int)] ++ Cl.put (recNums m.l) := by unfold msgBytes msgNums; rw [Cl.put_append]
  have HMB := Lib.hid hmb
  obtain ⟨p3, hp3⟩ : ∃ p3, Cl.put [m.seq, m.bar, (m.l.length : Int)] = p3 := ⟨_, rfl⟩
  have hp3l := Cl.put_len [m.seq, m.bar, (m.l.length : Int)]
  rw [hp3] at hp3l
  simp only [List.length_cons, List.length_nil] at hp3l
  have HP3 := Lib.hid hp3
  clear hr hm hi hmb hp3
  go_enter Try.func21, Try.ntmps21
  go_wp2_with fail
  refine (may_any m _ _ HR.out).mono ?_
  rintro e w1 ⟨rfl, hb1⟩
  rw [HM.out]
  have hmB : w1.heap[w.heap.size]? = some (.cells #[.int .i64 m.seq, .int .i64 m.bar, .slice a m.l.length c] 33) := (hb1.block _ (by simp)).trans (heap_alloc_new w _)
  have hb := bel_trans (bel_alloc w _) hb1
  have m0 := cells_at hmB 0 _ rfl
  have m1 := cells_at hmB 1 _ rfl
  have m2 := cells_at hmB 2 _ rfl
  have hlt := (Array.getElem?_eq_some_iff.1 hmB).1
  have HB := Lib.hid hb
  have HMBK := Lib.hid hmB
  clear hb1 hmB hb
  go_wp2_with fail
  refine (putR_any _ [m.seq, m.bar, (m.l.length : Int)] _ (Reads.lit _ _ _ 3 _ (by simp) (by simp [maxLen])) (by simp) H3.out).mono ?_
  rintro e w2 ⟨rfl, hb2⟩
  rw [HP3.out]
  have hB2 := bel_trans (bel_alloc w1 _) hb2
  have m2 := (hB2.cell (p := ⟨w.heap.size, 2, none⟩) hlt).trans m2
  have HB2 := Lib.hid (bel_trans HB.out hB2)
  have HR2 := Lib.hid (HR0.out.below HB2.out)
  clear hb2 hB2 m0 m1 hlt
  go_wp2_with fail
  clear m2
  obtain ⟨l, hl⟩ : ∃ l, m.l = l := ⟨_, rfl⟩
  rw [hl] at hn HR2 HMB HP3 ⊢
  have hi2 := HI.out.2.2
  rw [hl] at hi2
  have HI2 := Lib.hid hi2
  clear hl hi2 HR0 HR
  go_loopw [4, 22] (fun s i wr => ∃ k : Nat, k ≤ l.length ∧ i = .int .i64 k ∧ s = .string ⟨(p3 ++ Cl.put (recNums (l.take k))).toArray⟩ ∧ Below w2.heap.size w2 wr) (fun _ i _ => l.length - (intOf i).toNat)
  case atStart => exact ⟨0, Nat.zero_le _, rfl, by simp [recNums, Cl.put], Below.refl _ _⟩
  case round =>
    obtain ⟨k, hk, rfl, rfl, hbw⟩ := hrel
    have hpl := Cl.put_len (recNums (l.take k))
    rw [recNums_len, List.length_take] at hpl
    have hsl : (p3 ++ Cl.put (recNums (l.take k))).length ≤ 200000 := by rw [List.length_append]; omega
    obtain ⟨acc, hacc⟩ : ∃ acc, p3 ++ Cl.put (recNums (l.take k)) = acc := ⟨_, rfl⟩
    rw [hacc] at hsl ⊢
    have HACC := Lib.hid hacc
    have hsz := size_mk acc
    clear hpl hacc
    by_cases hlt : k < l.length
    · obtain ⟨r, hr⟩ : ∃ r, l[k]? = some r := ⟨l[k], by simp [hlt]⟩
      obtain ⟨b, o, rfl, hcap, hbl, hcells⟩ := reads3 (HR2.out.below hbw) k r hr
      obtain ⟨g0, g1, g2⟩ := hcells k r hr
      have hir := HI2.out r (List.mem_of_getElem? hr)
      have HIR : Hid (∀ n ∈ [r.1, r.2.1, r.2.2], Cl.In64 n) := Lib.hid (by
        intro n hn'
        simp only [List.mem_cons, List.not_mem_nil, or_false] at hn'
        rcases hn' with rfl | rfl | rfl
        · exact hir.1
        · exact hir.2.1
        · exact hir.2.2)
      have HRK := Lib.hid hr
      have hq := Cl.put_len [r.1, r.2.1, r.2.2]
      simp only [List.length_cons, List.length_nil] at hq
      have hqs := size_mk (Cl.put [r.1, r.2.1, r.2.2])
      clear hcells hr hir
      go_wp2_with fail
      refine (putR_any _ [r.1, r.2.1, r.2.2] _ (Reads.lit _ _ _ 3 _ (by simp) (by simp [maxLen])) (by simp) HIR.out).mono ?_
      rintro e w3 ⟨rfl, hb3⟩
      go_wp2_with fail
      go_roundw
      case rel =>
        refine ⟨k + 1, by omega, by go_num, ?_, bel_trans hbw (bel_trans (bel_trans (bel_alloc _ _) (bel_alloc _ _)) hb3)⟩
        rw [recNums_snoc l k r HRK.out, Cl.put_append, ← List.append_assoc, HACC.out, mk_append]
      case measure => simp [intOf]; omega
    · go_wp2_with fail
      go_ret2
      refine ⟨?_, bel_trans HB2.out hbw⟩
      have e : acc = msgBytes m := by
        rw [HMB.out, HP3.out, ← HACC.out, List.take_of_length_le (by omega)]
      rw [e]
      rfl

end Go.Proofs.Ytgoglcggnmfapaa
