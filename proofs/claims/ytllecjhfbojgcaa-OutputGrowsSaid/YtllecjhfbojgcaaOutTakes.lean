/-
  Whether a record may come next: walked.
-/
import Derived.Test.YtllecjhfbojgcaaOutEach
import Derived.Deep.RegionHeld3
import Derived.BigRegion
namespace Go.Proofs.Ytllecjhfbojgcaa
open Go.RowKit
set_option maxRecDepth 20000

set_option maxHeartbeats 8000000 in
set_option maxRecDepth 100000 in
theorem takes_any {w : World} {b l : Nat} {rs : List ORec} {P : Nat → Prop} (h : PartAt w b l rs P) (r : ORec) (va : Option Addr) (vc : Nat) (hn : r.l.length ≤ 9223372036854775807) (kz : Int) (hkz : (r.kind.toNat : Int) = kz) (h1 : r.kind = 1 → lastO rs 1 ≤ r.n ∧ lastO rs 2 < r.n) (h2 : r.kind ≠ 1 → lastO rs 2 < r.n) :
    Calls Try.prog 70 #[ptr b 0, .agg #[.int .u8 kz, .int .i64 r.n, .slice va r.l.length vc]] w fun e w' => e = .returned (.bool (takesO rs r)) ∧ Below w.heap.size w w' := by
  obtain ⟨W, hW⟩ : ∃ W, w.alloc (.cells #[.int .u8 kz, .int .i64 r.n, .slice va r.l.length vc] 142) = W := ⟨_, rfl⟩
  have hbW : Below w.heap.size w W := by rw [← hW]; exact bel_alloc _ _
  have hbox : W.heap[w.heap.size]? = some (.cells #[.int .u8 kz, .int .i64 r.n, .slice va r.l.length vc] 142) := by rw [← hW]; exact heap_alloc_new w _
  have hg : w.heap.size < W.heap.size := (Array.getElem?_eq_some_iff.1 hbox).1
  have HW := Lib.hid hW
  have HB := Lib.hid hbW
  have HL1 := Lib.hid (fun (X : World) (hX : Below W.heap.size W X) => last_any (h.below (bel_trans hbW hX)) 1 1 (by decide))
  have HL2 := Lib.hid (fun (X : World) (hX : Below W.heap.size W X) => last_any (h.below (bel_trans hbW hX)) 2 2 (by decide))
  have HT := Lib.hid (show takesO rs r = if r.kind = 1 then (decide (lastO rs 1 ≤ r.n) && decide (lastO rs 2 < r.n)) && decide (r.l.length ≤ 1000) else decide (lastO rs 2 < r.n) && decide (lastO rs 1 ≤ r.n) from rfl)
  obtain ⟨A, hA⟩ : ∃ A, lastO rs 1 = A := ⟨_, rfl⟩
  obtain ⟨B, hB⟩ : ∃ B, lastO rs 2 = B := ⟨_, rfl⟩
  obtain ⟨n, hnn⟩ : ∃ n, r.n = n := ⟨_, rfl⟩
  obtain ⟨m, hm⟩ : ∃ m, r.l.length = m := ⟨_, rfl⟩
  obtain ⟨g, hgg⟩ : ∃ g, w.heap.size = g := ⟨_, rfl⟩
  rw [hA] at HL1 HT h1
  rw [hB] at HL2 HT h1 h2
  rw [hnn, hm] at HT hbox HW
  rw [hnn] at h1 h2
  rw [hgg] at hbox hg
  rw [hm] at hn
  rw [hnn, hm]
  have b0 := cells_at hbox 0 _ rfl
  have b1 := cells_at hbox 1 _ rfl
  have b2 := cells_at hbox 2 _ rfl
  simp only [List.getElem_toArray, List.getElem_cons_zero, List.getElem_cons_succ] at b0 b1 b2
  have HGG := Lib.hid hgg
  clear hW hbW hbox hA hB hnn hm hgg h
  unfold ptr at HL1 HL2 ⊢
  by_cases hk : r.kind = 1
  · have hz : kz = 1 := by rw [← hkz, hk]; decide
    have ht : takesO rs r = ((decide (A ≤ n) && decide (B < n)) && decide (m ≤ 1000)) := by rw [HT.out, if_pos hk]
    obtain ⟨c1, c2⟩ := h1 hk
    rw [ht]
    subst hz
    clear hkz ht hk HT h1 h2
    by_cases c3 : m ≤ 1000
    · simp only [c1, c2, c3, decide_true, Bool.and_true]
      have d1 : (A ≤ n) = True := by simpa using c1
      have d2 : (B < n) = True := by simpa using c2
      clear c1 c2
      go_enter Try.func70, Try.ntmps70
      go_upto_region 2 with fail
      rw [HW.out]
      try rw [HGG.out]
      go_region_held3 (fun w' => Below W.heap.size W w' ∧ w'.cell? ⟨g, 1, none⟩ = some (.int .i64 n) ∧ w'.cell? ⟨g, 2, none⟩ = some (.slice va m vc))
        (first
          | exact ⟨bel_drew _, b1, b2⟩
          | exact ⟨hS.1.trans (hb3.mono hS.1.size), (hb3.cell (p := ⟨g, 1, none⟩) (Nat.lt_of_lt_of_le hg hS.1.size)).trans hS.2.1, (hb3.cell (p := ⟨g, 2, none⟩) (Nat.lt_of_lt_of_le hg hS.1.size)).trans hS.2.2⟩)
        (first
          | (go_at_call_of 77 (Value.int IntKind.u8 1); have hS := ‹Below W.heap.size W _ ∧ _›; refine (HL1.out _ hS.1).mono ?_; rintro e w3 ⟨rfl, hb3⟩)
          | (go_at_call_of 77 (Value.int IntKind.u8 2); have hS := ‹Below W.heap.size W _ ∧ _›; refine (HL2.out _ hS.1).mono ?_; rintro e w3 ⟨rfl, hb3⟩))
      all_goals
        have hF := (‹Below W.heap.size W _ ∧ _›).1
        have HF := Lib.hid (bel_trans HB.out hF)
        clear b1 b2
        go_wp2_with fail
        go_ret
        exact ⟨by simp; omega, HF.out⟩
    · simp only [c1, c2, c3, decide_true, decide_false, Bool.and_true, Bool.and_false]
      have d1 : (A ≤ n) = True := by simpa using c1
      have d2 : (B < n) = True := by simpa using c2
      clear c1 c2
      go_enter Try.func70, Try.ntmps70
      go_upto_region 2 with fail
      rw [HW.out]
      try rw [HGG.out]
      go_region_held3 (fun w' => Below W.heap.size W w' ∧ w'.cell? ⟨g, 1, none⟩ = some (.int .i64 n) ∧ w'.cell? ⟨g, 2, none⟩ = some (.slice va m vc))
        (first
          | exact ⟨bel_drew _, b1, b2⟩
          | exact ⟨hS.1.trans (hb3.mono hS.1.size), (hb3.cell (p := ⟨g, 1, none⟩) (Nat.lt_of_lt_of_le hg hS.1.size)).trans hS.2.1, (hb3.cell (p := ⟨g, 2, none⟩) (Nat.lt_of_lt_of_le hg hS.1.size)).trans hS.2.2⟩)
        (first
          | (go_at_call_of 77 (Value.int IntKind.u8 1); have hS := ‹Below W.heap.size W _ ∧ _›; refine (HL1.out _ hS.1).mono ?_; rintro e w3 ⟨rfl, hb3⟩)
          | (go_at_call_of 77 (Value.int IntKind.u8 2); have hS := ‹Below W.heap.size W _ ∧ _›; refine (HL2.out _ hS.1).mono ?_; rintro e w3 ⟨rfl, hb3⟩))
      all_goals
        have hF := (‹Below W.heap.size W _ ∧ _›).1
        have HF := Lib.hid (bel_trans HB.out hF)
        clear b1 b2
        go_wp2_with fail
        go_ret
        exact ⟨by simp; omega, HF.out⟩
  · have hz : (kz == 1) = false := by
      rw [← hkz]
      simp
      intro e
      exact hk (UInt8.toNat_inj.1 (by rw [show (1 : UInt8).toNat = 1 from rfl]; omega))
    have hz2 : ¬ kz = 1 := by simpa using hz
    have ht : takesO rs r = (decide (B < n) && decide (A ≤ n)) := by rw [HT.out, if_neg hk]
    have c1 := h2 hk
    rw [ht]
    clear hkz ht hk HT h1 h2
    by_cases c2 : A ≤ n
    · simp only [c1, c2, decide_true, Bool.and_true]
      have d1 : (A ≤ n) = True := by simpa using c2
      have d2 : (B < n) = True := by simpa using c1
      clear c1 c2
      go_enter Try.func70, Try.ntmps70
      go_upto_region 3 with fail
      rw [HW.out]
      try rw [HGG.out]
      go_region_held3 (fun w' => Below W.heap.size W w' ∧ w'.cell? ⟨g, 1, none⟩ = some (.int .i64 n) ∧ w'.cell? ⟨g, 2, none⟩ = some (.slice va m vc))
        (first
          | exact ⟨bel_drew _, b1, b2⟩
          | exact ⟨hS.1.trans (hb3.mono hS.1.size), (hb3.cell (p := ⟨g, 1, none⟩) (Nat.lt_of_lt_of_le hg hS.1.size)).trans hS.2.1, (hb3.cell (p := ⟨g, 2, none⟩) (Nat.lt_of_lt_of_le hg hS.1.size)).trans hS.2.2⟩)
        (first
          | (go_at_call_of 77 (Value.int IntKind.u8 1); have hS := ‹Below W.heap.size W _ ∧ _›; refine (HL1.out _ hS.1).mono ?_; rintro e w3 ⟨rfl, hb3⟩)
          | (go_at_call_of 77 (Value.int IntKind.u8 2); have hS := ‹Below W.heap.size W _ ∧ _›; refine (HL2.out _ hS.1).mono ?_; rintro e w3 ⟨rfl, hb3⟩))
      all_goals
        have hF := (‹Below W.heap.size W _ ∧ _›).1
        have HF := Lib.hid (bel_trans HB.out hF)
        clear b1 b2
        go_wp2_with fail
        go_ret
        exact ⟨by simp, HF.out⟩
    · simp only [c1, c2, decide_true, decide_false, Bool.and_false]
      have d1 : (A ≤ n) = False := by simpa using c2
      have d2 : (B < n) = True := by simpa using c1
      clear c1 c2
      go_enter Try.func70, Try.ntmps70
      go_upto_region 3 with fail
      rw [HW.out]
      try rw [HGG.out]
      go_region_held3 (fun w' => Below W.heap.size W w' ∧ w'.cell? ⟨g, 1, none⟩ = some (.int .i64 n) ∧ w'.cell? ⟨g, 2, none⟩ = some (.slice va m vc))
        (first
          | exact ⟨bel_drew _, b1, b2⟩
          | exact ⟨hS.1.trans (hb3.mono hS.1.size), (hb3.cell (p := ⟨g, 1, none⟩) (Nat.lt_of_lt_of_le hg hS.1.size)).trans hS.2.1, (hb3.cell (p := ⟨g, 2, none⟩) (Nat.lt_of_lt_of_le hg hS.1.size)).trans hS.2.2⟩)
        (first
          | (go_at_call_of 77 (Value.int IntKind.u8 1); have hS := ‹Below W.heap.size W _ ∧ _›; refine (HL1.out _ hS.1).mono ?_; rintro e w3 ⟨rfl, hb3⟩)
          | (go_at_call_of 77 (Value.int IntKind.u8 2); have hS := ‹Below W.heap.size W _ ∧ _›; refine (HL2.out _ hS.1).mono ?_; rintro e w3 ⟨rfl, hb3⟩))
      all_goals
        have hF := (‹Below W.heap.size W _ ∧ _›).1
        have HF := Lib.hid (bel_trans HB.out hF)
        clear b1 b2
        go_wp2_with fail
        go_ret
        exact ⟨by simp, HF.out⟩

end Go.Proofs.Ytllecjhfbojgcaa
