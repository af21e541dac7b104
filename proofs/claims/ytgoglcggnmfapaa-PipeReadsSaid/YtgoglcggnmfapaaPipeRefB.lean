/-
  The reference's Bytes walked.
-/
import Derived.Test.YtgoglcggnmfapaaPipeBytes
import Derived.Deep.AppendLies
import Derived.Deep.RegionHeld3
namespace Go.Proofs.Ytgoglcggnmfapaa
open Go.RowKit Go.Conc

theorem own_lit (w : World) (c : Array Value) (T : TypeId) (n base : Nat) (hc : c.size = n) (hn : n ≤ maxLen) (hb : base ≤ w.heap.size) : (w.alloc (.cells c T)).ownsRow base T 1 (.slice (some ⟨w.heap.size, 0, none⟩) n n) n c.toList := by
  refine ⟨by simp [hc], .inr ⟨w.heap.size, n, c, rfl, hb, heap_alloc_new w _, Nat.le_refl _, hn, by omega, ?_⟩⟩
  rw [Nat.mul_one]
  exact List.take_of_length_le (by simp [hc])

theorem own_far {w : World} {base : Nat} {e : TypeId} {size : Nat} {v : Value} {n : Nat} {xs : List Value} (h : w.ownsRow base e size v n xs) {b : Nat} (hb : b < base) : v.ownBlock ≠ some b := fun e' => by
  have := (h.lt b e').1
  omega

theorem refbytes_bad (m : MsgP) (lv : Value) (w : World) (hr : Reads w lv m.l.length (recCells m.l)) (hm : mayB m = false) :
    Calls Try.prog 23 #[.agg #[.int .i64 m.seq, .int .i64 m.bar, lv]] w fun e w' => e = .returned (.tuple #[.string ⟨#[]⟩, .int .i64 2]) ∧ Below w.heap.size w w' := by
  have HR := Lib.hid (hr.below (bel_alloc w (.cells #[.int .i64 m.seq, .int .i64 m.bar, lv] 33)))
  obtain ⟨a, c, rfl⟩ := hr.shape
  have HM := Lib.hid hm
  clear hr hm
  go_enter Try.func23, Try.ntmps23
  go_wp2_with fail
  refine (refmay_any m _ _ HR.out).mono ?_
  rintro e w1 ⟨rfl, hb1⟩
  rw [HM.out]
  go_wp2_with fail
  go_ret2
  exact ⟨rfl, bel_trans (bel_alloc _ _) hb1⟩

set_option maxHeartbeats 4000000 in
set_option maxRecDepth 100000 in
theorem refbytes_ok (m : MsgP) (lv : Value) (w : World) (hr : Reads w lv m.l.length (recCells m.l)) (hm : mayB m = true) (hi : In64M m) (hn : m.l.length ≤ 4000) :
    Calls Try.prog 23 #[.agg #[.int .i64 m.seq, .int .i64 m.bar, lv]] w fun e w' => e = .returned (.tuple #[.string ⟨(msgBytes m).toArray⟩, .int .i64 0]) ∧ Below w.heap.size w w' := by
  obtain ⟨i0, hi0, hz0, hz1, hz2⟩ := info_parts infoI64
  have HR := Lib.hid (hr.below (bel_alloc w (.cells #[.int .i64 m.seq, .int .i64 m.bar, lv] 33)))
  obtain ⟨a, c, rfl⟩ := hr.shape
  have HM := Lib.hid hm
  have HR0 := Lib.hid hr
  have HI : Hid (∀ n ∈ msgNums m, Cl.In64 n) := Lib.hid (by
    intro n hn'
    unfold msgNums recNums at hn'
    simp only [List.mem_append, List.mem_cons, List.not_mem_nil, or_false, List.mem_flatMap] at hn'
    rcases hn' with (rfl | rfl | rfl) | ⟨r, hr', rfl | rfl | rfl⟩
    · exact hi.1
    · exact hi.2.1
    · unfold Cl.In64; omega
    · exact (hi.2.2 r hr').1
    · exact (hi.2.2 r hr').2.1
    · exact (hi.2.2 r hr').2.2)
  clear hr hm hi
  go_enter Try.func23, Try.ntmps23
  go_wp2_with fail
  refine (refmay_any m _ _ HR.out).mono ?_
  rintro e w1 ⟨rfl, hb1⟩
  rw [HM.out]
  have hmB : w1.heap[w.heap.size]? = some (.cells #[.int .i64 m.seq, .int .i64 m.bar, .slice a m.l.length c] 33) := (hb1.block _ (by simp)).trans (heap_alloc_new w _)
  have hb := bel_trans (bel_alloc w _) hb1
  have m0 := cells_at hmB 0 _ rfl
  have m1 := cells_at hmB 1 _ rfl
  have m2 := cells_at hmB 2 _ rfl
  have hlt := (Array.getElem?_eq_some_iff.1 hmB).1
  have HB := Lib.hid hb
  clear hb1 hmB hb HR
  go_wp2_with fail
  clear m0 m1
  obtain ⟨l, hl⟩ : ∃ l, m.l = l := ⟨_, rfl⟩
  have hmn : msgNums m = [m.seq, m.bar, (l.length : Int)] ++ recNums l := by unfold msgNums; rw [hl]
  have HMN := Lib.hid hmn
  have HR1 := Lib.hid (HR0.out.below HB.out)
  rw [hl] at hn HR1 m2 ⊢
  clear hl hmn HR0
  have M2 := Lib.hid m2
  have HL := Lib.hid hlt
  go_loopw [4, 5] (fun v i wr => ∃ k : Nat, k ≤ l.length ∧ i = .int .i64 k ∧ Below w1.heap.size w1 wr ∧ wr.ownsRow w1.heap.size 2 1 v (3 + 3 * k) (ints ([m.seq, m.bar, (l.length : Int)] ++ recNums (l.take k)))) (fun _ i _ => l.length - (intOf i).toNat)
  case atStart =>
    refine ⟨0, Nat.zero_le _, rfl, bel_alloc _ _, ?_⟩
    have := own_lit w1 #[.int .i64 m.seq, .int .i64 m.bar, .int .i64 (l.length : Int)] 2 3 w1.heap.size rfl (by simp [maxLen]) (Nat.le_refl _)
    simpa [recNums, ints] using this
  case round =>
    clear m2 hlt
    obtain ⟨k, hk, rfl, hbw, hown⟩ := hrel
    have m2 := (hbw.cell (p := ⟨w.heap.size, 2, none⟩) HL.out).trans M2.out
    by_cases hlt : k < l.length
    · obtain ⟨r, hr⟩ : ∃ r, l[k]? = some r := ⟨l[k], by simp [hlt]⟩
      obtain ⟨b, o, rfl, hcap, hbl, hcells⟩ := reads3 HR1.out k r hr
      obtain ⟨g0, g1, g2⟩ := hcells k r hr
      have g0 := (hbw.cell (p := ⟨b, o + k * 3, none⟩) hbl).trans g0
      have g1 := (hbw.cell (p := ⟨b, o + k * 3 + 1, none⟩) hbl).trans g1
      have g2 := (hbw.cell (p := ⟨b, o + k * 3 + 2, none⟩) hbl).trans g2
      have HRK := Lib.hid hr
      have hszw := hbw.size
      have hi0' : (0 : Int) ≤ (k : Int) := Int.natCast_nonneg _
      have hi1 : (k : Int) < (l.length : Int) := by omega
      have hx1 : b < wr.heap.size := by omega
      have hx2 : w.heap.size < wr.heap.size := by have := HL.out; omega
      have ag := own_far hown HL.out
      have ak := own_far hown hbl
      have HOWN := Lib.hid hown
      have HBW := Lib.hid hbw
      clear hcells hr hown hbw
      go_wp2_with fail
      go_region_held3 (fun w' => w'.cell? ⟨w.heap.size, 2, none⟩ = some (.slice (some ⟨b, o, none⟩) l.length c) ∧ w'.cell? ⟨b, o + k * 3, none⟩ = some (.int .i64 r.1) ∧ w'.cell? ⟨b, o + k * 3 + 1, none⟩ = some (.int .i64 r.2.1) ∧ w'.cell? ⟨b, o + k * 3 + 2, none⟩ = some (.int .i64 r.2.2))
        (first
          | go_keep
          | (go_split_ands
             refine ⟨?_, ?_, ?_, ?_⟩
             · (rw [hgrow.cell_far _ (by simp; omega) (Ne.symm ag)]; assumption)
             · (rw [hgrow.cell_far _ (by simp; omega) (Ne.symm ak)]; assumption)
             · (rw [hgrow.cell_far _ (by simp; omega) (Ne.symm ak)]; assumption)
             · (rw [hgrow.cell_far _ (by simp; omega) (Ne.symm ak)]; assumption)))
        (first | (refine step_append_lies _ (by rfl) _ _ _ (by rfl) w1.heap.size 2 i0 _ 1 8 Try.underlying45 hi0 hz0 hz1 hz2 rfl (by omega) _ (3 + 3 * k) _ (by rfl) ((HOWN.out.alloc _).drew) ⟨wr.heap.size, 0, none⟩ 3 3 [.int .i64 r.1, .int .i64 r.2.1, .int .i64 r.2.2] (by rfl) (by rfl) (World.news_of_block (cs := #[.int .i64 r.1, .int .i64 r.2.1, .int .i64 r.2.2]) (t := 2) (fr := (0, 0)) (heap_alloc_new wr _)) (by simp [Value.oneCell']) (by omega) (by unfold maxLen; omega) (by omega) (by simp; omega) (wr.heap.size + 1) (by simp) ?_; intro gg cap w2 hown1 hgrow hat hltg))
      go_wp2
      have hbel := below_pushed HBW.out HOWN.out (.cells #[.int .i64 r.1, .int .i64 r.2.1, .int .i64 r.2.2] 2) (w' := w2) ⟨hgrow.os, hgrow.tape, hgrow.output, hgrow.size, hgrow.block⟩
      clear hgrow
      go_roundw
      case rel =>
        refine ⟨k + 1, by omega, by go_num, hbel, ?_⟩
        rw [recNums_snoc l k r HRK.out, ← List.append_assoc, ints_append, show 3 + 3 * (k + 1) = 3 + 3 * k + 3 by omega]
        exact hown1
      case measure => simp [intOf]; omega
    · have hkl : k = l.length := by omega
      subst hkl
      have hrd := Reads.own hown
      rw [List.take_length, ← HMN.out] at hrd
      have hml : (msgNums m).length = 3 + 3 * l.length := by rw [HMN.out, List.length_append, recNums_len]; rfl
      rw [← hml] at hrd
      obtain ⟨a5, c5, hv5⟩ := hrd.shape
      have HRD := Lib.hid hrd
      have HML := Lib.hid (show (msgNums m).length ≤ 1000000 by omega)
      have HBW := Lib.hid hbw
      clear hown hbw hrd hml hv5
      go_wp2_with fail
      refine (refput_any _ (msgNums m) _ HRD.out HML.out HI.out).mono ?_
      rintro e w2 ⟨rfl, hb2⟩
      go_wp2_with fail
      go_ret2
      exact ⟨rfl, bel_trans HB.out (bel_trans HBW.out hb2)⟩

end Go.Proofs.Ytgoglcggnmfapaa
