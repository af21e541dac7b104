/-
  The walk through the statement PipeBack.
-/
import Derived.Test.YtgoglcggnmfapaaPipeRead
import Derived.Test.YtgoglcggnmfapaaPipeSame
namespace Go.Proofs.Ytgoglcggnmfapaa
open Go.RowKit Go.Conc

theorem nums_len_le (s : List UInt8) : (Cl.nums s).1.length ≤ s.length := by
  have := Cl.numsA_len (s.length + 1) s []
  simpa [Cl.nums] using this

theorem readP_len (s : List UInt8) (m : MsgP) (h : readP s = some m) : 3 * m.l.length ≤ s.length := by
  unfold readP at h
  split at h
  · rename_i hc
    simp only [Option.some.injEq] at h
    subst h
    have e := msgNums_of _ hc.2.1
    have h2 : (msgNums (msgOf (Cl.nums s).1)).length = 3 + 3 * (msgOf (Cl.nums s).1).l.length := by unfold msgNums; rw [List.length_append, recNums_len]; rfl
    rw [e] at h2
    have := nums_len_le s
    omega
  · cases h
theorem msgBytes_len (m : MsgP) (hn : m.l.length ≤ 4000) : (msgBytes m).length ≤ 130000 := by
  have h2 : (msgNums m).length = 3 + 3 * m.l.length := by unfold msgNums; rw [List.length_append, recNums_len]; rfl
  have := Cl.put_len (msgNums m)
  unfold msgBytes
  omega

theorem pread_any (s : ByteArray) (w : World) (hs : s.size ≤ 1000000) :
    Calls Try.prog 25 #[.string s] w (ReadSays (readP s.data.toList) w) := by
  by_cases hc : (Cl.nums s.data.toList).2 = 0 ∧ formed (Cl.nums s.data.toList).1
  · have hlen : (Cl.nums s.data.toList).1.length ≤ 1000000 := Nat.le_trans (nums_len_le s.data.toList) hs
    obtain ⟨h0, hf⟩ := hc
    generalize hl : Cl.nums s.data.toList = p at h0 hf hlen
    obtain ⟨l, x⟩ := p
    simp only at h0 hf hlen
    subst h0
    exact pread_ok s l w hs hl hf hlen
  · have hn : readP s.data.toList = none := by
      unfold readP
      rw [if_neg (fun h => hc ⟨h.1, h.2.1⟩)]
    refine (pread_form s _ _ w hs rfl hc).mono ?_
    rintro e w' ⟨rfl, hb⟩
    rw [hn]
    exact ⟨fun _ => rfl, fun m hm => (by cases hm), hb⟩

theorem below_drews {w : World} (n : Nat) : Below w.heap.size w (w.drewN n) := ⟨rfl, rfl, rfl, Nat.le_refl _, fun _ _ => rfl⟩

set_option maxHeartbeats 4000000 in
theorem pipeBack_walk (m : MsgP) (lv : Value) (s : ByteArray) (w : World) (hr : Reads w lv m.l.length (recCells m.l)) (hi : In64M m) (hs : s.size ≤ 140737488351232) :
    Calls Try.prog 7 #[.agg #[.int .i64 m.seq, .int .i64 m.bar, lv], .string s] w fun e w' => e = .returned (.bool true) ∧ Below w.heap.size w w' := by
  have HR := Lib.hid hr
  have HI := Lib.hid hi
  have hlx := hr.lenLe
  unfold maxLen at hlx
  obtain ⟨a, c, rfl⟩ := hr.shape
  clear hr hi
  by_cases hbig : 1000 < m.l.length
  · have hb : decide ((1000 : Int) < (m.l.length : Int)) = true := by simp; omega
    clear hbig
    go_enter Try.func7, Try.ntmps7
    go_wp2_with fail
    refine (pworks_any _).mono ?_
    rintro e w1 ⟨rfl, hb1⟩
    go_wp2_with fail
    go_ret
    exact ⟨rfl, bel_trans (bel_alloc _ _) hb1⟩
  · have hb : decide ((1000 : Int) < (m.l.length : Int)) = false := by simp; omega
    have hbig : m.l.length ≤ 1000 := by omega
    by_cases hsb : 10000 < s.size
    · have hb' : decide ((10000 : Int) < (s.size : Int)) = true := by simp; omega
      clear hbig hsb
      go_enter Try.func7, Try.ntmps7
      go_wp2_with fail
      refine (pworks_any _).mono ?_
      rintro e w1 ⟨rfl, hb1⟩
      go_wp2_with fail
      go_ret
      exact ⟨rfl, bel_trans (bel_alloc _ _) hb1⟩
    · have hb' : decide ((10000 : Int) < (s.size : Int)) = false := by simp; omega
      have hsb : s.size ≤ 10000 := by omega
      go_enter Try.func7, Try.ntmps7
      obtain ⟨A, hA⟩ : ∃ A, w.alloc (.cells #[.int .i64 m.seq, .int .i64 m.bar, .slice a m.l.length c] 33) = A := ⟨_, rfl⟩
      have hbA : Below w.heap.size w A := by rw [← hA]; exact bel_alloc _ _
      have hbx : A.heap[w.heap.size]? = some (.cells #[.int .i64 m.seq, .int .i64 m.bar, .slice a m.l.length c] 33) := by rw [← hA]; exact heap_alloc_new w _
      have hrA := HR.out.below hbA
      have HBA := Lib.hid hbA
      have HBX := Lib.hid hbx
      have HRA := Lib.hid hrA
      have HA := Lib.hid hA
      clear hbA hbx hrA hA
      cases hmay : mayB m with
      | false =>
        go_wp2_with fail
        rw [HA.out]
        refine (pbytes_bad m _ _ HRA.out hmay).mono ?_
        rintro e w1 ⟨rfl, hb1⟩
        go_wp2_with fail
        have HBW := Lib.hid (bel_trans HBA.out hb1)
        refine (pread_any s _ (by omega)).mono ?_
        rintro e w4 ⟨hnone, hok4, hb4⟩
        have hbW4 := bel_trans HBW.out hb4
        have HB4 := Lib.hid hbW4
        clear hbW4 hb4
        cases hrd : readP s.data.toList with
        | none =>
          obtain rfl := hnone hrd
          clear hnone hok4
          unfold zeroMsg
          go_wp2_with fail
          refine (pworks_any _).mono ?_
          rintro e w5 ⟨rfl, hb5⟩
          go_wp2_with fail
          go_ret
          exact ⟨rfl, bel_trans HB4.out (bel_trans (bel_alloc _ _) hb5)⟩
        | some m2 =>
          obtain ⟨lv3, rfl, hr3⟩ := hok4 m2 hrd
          obtain ⟨a3, c3, rfl⟩ := hr3.shape
          obtain ⟨hbk, hmay2, hin2⟩ := readP_back _ m2 hrd
          have hl2 := readP_len _ m2 hrd
          have hss : s.data.toList.length = s.size := by cases s; rfl
          have hlb : m2.l.length ≤ 4000 := by omega
          have HR3 := Lib.hid hr3
          clear hnone hok4 hl2 hss hr3 hrd
          go_wp2_with fail
          refine (pbytes_ok m2 _ _ (HR3.out.below (bel_alloc _ _)) hmay2 hin2 hlb).mono ?_
          rintro e w5 ⟨rfl, hb5⟩
          have he : (⟨(msgBytes m2).toArray⟩ : ByteArray) = s := by rw [hbk]
          rw [he]
          go_wp2_with fail
          refine (pworks_any _).mono ?_
          rintro e w6 ⟨rfl, hb6⟩
          go_wp2_with fail
          go_ret
          exact ⟨rfl, bel_trans HB4.out (bel_trans (bel_alloc _ _) (bel_trans hb5 hb6))⟩
      | true =>
        go_wp2_with fail
        rw [HA.out]
        refine (pbytes_ok m _ _ HRA.out hmay HI.out (by omega)).mono ?_
        rintro e w1 ⟨rfl, hb1⟩
        have hsz := size_mk (msgBytes m)
        have hml := msgBytes_len m (by omega)
        obtain ⟨t, ht⟩ : ∃ t, (⟨(msgBytes m).toArray⟩ : ByteArray) = t := ⟨_, rfl⟩
        have hrt : readP t.data.toList = some m := by rw [← ht]; exact readP_bytes m hmay HI.out (by omega)
        rw [ht] at hsz ⊢
        have HRT := Lib.hid hrt
        clear ht hrt
        go_wp2_with fail
        refine (pread_any t _ (by omega)).mono ?_
        rintro e w2 ⟨-, hok, hb2⟩
        obtain ⟨lv2, rfl, hr2⟩ := hok m HRT.out
        obtain ⟨a2, c2, rfl⟩ := hr2.shape
        have hbx2 := (hb2.block _ (by have := (Array.getElem?_eq_some_iff.1 HBX.out).1; have := hb1.size; omega)).trans ((hb1.block _ (Array.getElem?_eq_some_iff.1 HBX.out).1).trans HBX.out)
        have hlt2 := (Array.getElem?_eq_some_iff.1 hbx2).1
        have m0 := cells_at hbx2 0 _ rfl
        have m1 := cells_at hbx2 1 _ rfl
        have m2 := cells_at hbx2 2 _ rfl
        simp only [List.getElem_toArray, List.getElem_cons_succ, List.getElem_cons_zero] at m0 m1 m2
        have HB12 := Lib.hid (bel_trans HBA.out (bel_trans hb1 hb2))
        have HRM := Lib.hid ((HRA.out.below hb1).below hb2)
        have HR2 := Lib.hid hr2
        clear hok hbx2 hr2 hb1 hb2
        go_wp2_with fail
        refine (eqRec_same _ _ m.l _ (HR2.out.below (bel_alloc _ _)) (HRM.out.below (bel_alloc _ _))).mono ?_
        rintro e w3 ⟨rfl, n3, rfl⟩
        have HBW := Lib.hid (bel_trans HB12.out (bel_trans (bel_alloc w2 (.cells #[.int .i64 m.seq, .int .i64 m.bar, .slice a2 m.l.length c2] 33)) (below_drews n3)))
        go_wp2_with fail
        refine (pread_any s _ (by omega)).mono ?_
        rintro e w4 ⟨hnone, hok4, hb4⟩
        have hbW4 := bel_trans HBW.out hb4
        have HB4 := Lib.hid hbW4
        clear hbW4 hb4
        cases hrd : readP s.data.toList with
        | none =>
          obtain rfl := hnone hrd
          clear hnone hok4
          unfold zeroMsg
          go_wp2_with fail
          refine (pworks_any _).mono ?_
          rintro e w5 ⟨rfl, hb5⟩
          go_wp2_with fail
          go_ret
          exact ⟨rfl, bel_trans HB4.out (bel_trans (bel_alloc _ _) hb5)⟩
        | some m2 =>
          obtain ⟨lv3, rfl, hr3⟩ := hok4 m2 hrd
          obtain ⟨a3, c3, rfl⟩ := hr3.shape
          obtain ⟨hbk, hmay2, hin2⟩ := readP_back _ m2 hrd
          have hl2 := readP_len _ m2 hrd
          have hss : s.data.toList.length = s.size := by cases s; rfl
          have hlb : m2.l.length ≤ 4000 := by omega
          have HR3 := Lib.hid hr3
          clear hnone hok4 hl2 hss hr3 hrd
          go_wp2_with fail
          refine (pbytes_ok m2 _ _ (HR3.out.below (bel_alloc _ _)) hmay2 hin2 hlb).mono ?_
          rintro e w5 ⟨rfl, hb5⟩
          have he : (⟨(msgBytes m2).toArray⟩ : ByteArray) = s := by rw [hbk]
          rw [he]
          go_wp2_with fail
          refine (pworks_any _).mono ?_
          rintro e w6 ⟨rfl, hb6⟩
          go_wp2_with fail
          go_ret
          exact ⟨rfl, bel_trans HB4.out (bel_trans (bel_alloc _ _) (bel_trans hb5 hb6))⟩

end Go.Proofs.Ytgoglcggnmfapaa
