/-
  Messages; May and the reference's May walked.
-/
import Derived.Test.YtgoglcggnmfapaaLib
namespace Go.Proofs.Ytgoglcggnmfapaa
open Go.RowKit

/-- Records, cell by cell. -/
def recCells (l : List (Int × Int × Int)) : List Value := l.flatMap fun r => [.int .i64 r.1, .int .i64 r.2.1, .int .i64 r.2.2]
theorem recCells_cons (r : Int × Int × Int) (l : List (Int × Int × Int)) : recCells (r :: l) = [.int .i64 r.1, .int .i64 r.2.1, .int .i64 r.2.2] ++ recCells l := rfl
theorem recCells_snoc (l : List (Int × Int × Int)) (r : Int × Int × Int) : recCells l ++ [.int .i64 r.1, .int .i64 r.2.1, .int .i64 r.2.2] = recCells (l ++ [r]) := by simp [recCells]
theorem recCells_len (l : List (Int × Int × Int)) : (recCells l).length = l.length * 3 := by
  induction l with
  | nil => rfl
  | cons r l ih => rw [recCells_cons, List.length_append, ih, List.length_cons, List.length_cons, List.length_cons, List.length_cons, List.length_nil]; omega
theorem recCells_at (l : List (Int × Int × Int)) : ∀ (k : Nat) (r : Int × Int × Int), l[k]? = some r → (recCells l)[k * 3]? = some (.int .i64 r.1) ∧ (recCells l)[k * 3 + 1]? = some (.int .i64 r.2.1) ∧ (recCells l)[k * 3 + 2]? = some (.int .i64 r.2.2) := by
  induction l with
  | nil => intro k r h; simp at h
  | cons z l ih =>
    intro k r h
    rw [recCells_cons]
    cases k with
    | zero =>
      simp only [List.getElem?_cons_zero, Option.some.injEq] at h
      subst h
      exact ⟨rfl, rfl, rfl⟩
    | succ k =>
      simp only [List.getElem?_cons_succ] at h
      obtain ⟨h1, h2, h3⟩ := ih k r h
      have e0 : (k + 1) * 3 - [Value.int .i64 z.1, .int .i64 z.2.1, .int .i64 z.2.2].length = k * 3 := by simp; omega
      have e1 : (k + 1) * 3 + 1 - [Value.int .i64 z.1, .int .i64 z.2.1, .int .i64 z.2.2].length = k * 3 + 1 := by simp; omega
      have e2 : (k + 1) * 3 + 2 - [Value.int .i64 z.1, .int .i64 z.2.1, .int .i64 z.2.2].length = k * 3 + 2 := by simp; omega
      rw [List.getElem?_append_right (by simp; omega), List.getElem?_append_right (by simp; omega), List.getElem?_append_right (by simp; omega), e0, e1, e2]
      exact ⟨h1, h2, h3⟩

/-- A slice of records that is not empty, opened. -/
theorem reads3 {w : World} {a : Option Addr} {n c : Nat} {l : List (Int × Int × Int)} (h : Reads w (.slice a n c) l.length (recCells l)) (k : Nat) (r : Int × Int × Int) (hr : l[k]? = some r) :
    ∃ b o, a = some ⟨b, o, none⟩ ∧ l.length ≤ c ∧ b < w.heap.size ∧ ∀ (j : Nat) (x : Int × Int × Int), l[j]? = some x → w.cell? ⟨b, o + j * 3, none⟩ = some (.int .i64 x.1) ∧ w.cell? ⟨b, o + j * 3 + 1, none⟩ = some (.int .i64 x.2.1) ∧ w.cell? ⟨b, o + j * 3 + 2, none⟩ = some (.int .i64 x.2.2) := by
  have hlt := (List.getElem?_eq_some_iff.1 hr).1
  obtain ⟨b, o, kk, hv, h1, _, hb, hc⟩ := h.some (by omega)
  simp only [Value.slice.injEq] at hv
  obtain ⟨h1', _, h3⟩ := hv
  refine ⟨b, o, h1', by omega, hb, fun j x hx => ?_⟩
  obtain ⟨g0, g1, g2⟩ := recCells_at l j x hx
  exact ⟨hc _ _ g0, hc _ _ g1, hc _ _ g2⟩

/-- A message. -/
structure MsgP where
  seq : Int
  bar : Int
  l : List (Int × Int × Int)

def upB : List (Int × Int × Int) → Bool
  | [] => true
  | [_] => true
  | x :: y :: r => decide (x.1 < y.1) && upB (y :: r)
theorem upB_iff (l : List (Int × Int × Int)) : upB l = true ↔ ∀ i x y, l[i]? = some x → l[i + 1]? = some y → x.1 < y.1 := by
  induction l with
  | nil => simp [upB]
  | cons z l ih =>
    cases l with
    | nil => simp [upB]
    | cons u l =>
      show (decide (z.1 < u.1) && upB (u :: l)) = true ↔ _
      rw [Bool.and_eq_true, decide_eq_true_eq, ih]
      constructor
      · rintro ⟨h1, h2⟩ i x y hx hy
        cases i with
        | zero => simp at hx hy; subst hx; subst hy; exact h1
        | succ i => exact h2 i x y (by simpa using hx) (by simpa using hy)
      · intro h
        exact ⟨h 0 z u (by simp) (by simp), fun i x y hx hy => h (i + 1) x y (by simpa using hx) (by simpa using hy)⟩
theorem upB_bad (l : List (Int × Int × Int)) (i : Nat) (x y : Int × Int × Int) (hx : l[i]? = some x) (hy : l[i + 1]? = some y) (h : ¬ x.1 < y.1) : upB l = false := by
  cases hb : upB l with
  | false => rfl
  | true => exact absurd ((upB_iff l).1 hb i x y hx hy) h

def mayB (m : MsgP) : Bool := decide (0 ≤ m.seq) && decide (0 ≤ m.bar) && (decide (m.bar = 0) || decide (m.l.length = 0)) && upB m.l

/-- So far they rise. -/
def Rises (l : List (Int × Int × Int)) (k : Nat) : Prop := ∀ i x y, i + 1 < k → l[i]? = some x → l[i + 1]? = some y → x.1 < y.1
theorem Rises.zero (l : List (Int × Int × Int)) : Rises l 0 := fun _ _ _ h => by omega
theorem Rises.one (l : List (Int × Int × Int)) : Rises l 1 := fun _ _ _ h => by omega
theorem Rises.next {l : List (Int × Int × Int)} {k : Nat} (h : Rises l (k + 1)) (hlt : ∀ x y, l[k]? = some x → l[k + 1]? = some y → x.1 < y.1) : Rises l (k + 1 + 1) := by
  intro i x y hi hx hy
  by_cases he : i = k
  · subst he; exact hlt x y hx hy
  · exact h i x y (by omega) hx hy
theorem Rises.all {l : List (Int × Int × Int)} {k : Nat} (h : Rises l k) (hk : l.length ≤ k) : upB l = true := by
  rw [upB_iff]
  intro i x y hx hy
  have := (List.getElem?_eq_some_iff.1 hy).1
  exact h i x y (by omega) hx hy

set_option maxHeartbeats 2000000 in
theorem may_any (m : MsgP) (lv : Value) (w : World) (hr : Reads w lv m.l.length (recCells m.l)) :
    Calls Try.prog 22 #[.agg #[.int .i64 m.seq, .int .i64 m.bar, lv]] w fun e w' => e = .returned (.bool (mayB m)) ∧ Below w.heap.size w w' := by
  have hlen := hr.lenLe
  unfold maxLen at hlen
  obtain ⟨a, c, rfl⟩ := hr.shape
  have HM := Lib.hid (show mayB m = _ from rfl)
  obtain ⟨sq, hsq⟩ : ∃ sq, m.seq = sq := ⟨_, rfl⟩
  obtain ⟨br, hbr⟩ : ∃ br, m.bar = br := ⟨_, rfl⟩
  obtain ⟨l, hl⟩ : ∃ l, m.l = l := ⟨_, rfl⟩
  have hm : mayB m = (decide (0 ≤ sq) && decide (0 ≤ br) && (decide (br = 0) || decide (l.length = 0)) && upB l) := by unfold mayB; rw [hsq, hbr, hl]
  rw [hsq, hbr]
  rw [hl] at hr hlen ⊢
  have HM := Lib.hid hm
  clear hm hsq hbr hl
  by_cases h1 : sq < 0
  · have hd : decide (sq < 0) = true := by simp; omega
    have HF : Hid (mayB m = false) := Lib.hid (by rw [HM.out, decide_eq_false (by omega)]; simp)
    clear HM h1
    go_enter Try.func22, Try.ntmps22
    go_wp2_with fail
    go_ret
    exact ⟨ret_bool HF.out.symm, bel_alloc _ _⟩
  · have hd : decide (sq < 0) = false := by simp; omega
    by_cases h2 : br < 0
    · have hd2 : decide (br < 0) = true := by simp; omega
      have HF : Hid (mayB m = false) := Lib.hid (by rw [HM.out, decide_eq_false (show ¬ 0 ≤ br by omega)]; simp)
      clear HM h1 h2
      go_enter Try.func22, Try.ntmps22
      go_wp2_with fail
      go_ret
      exact ⟨ret_bool HF.out.symm, bel_alloc _ _⟩
    · have hd2 : decide (br < 0) = false := by simp; omega
      by_cases h3 : 0 < br ∧ 0 < l.length
      · have hd3 : decide (0 < br) = true := by simp; omega
        have hd4 : decide (0 < l.length) = true := by simp; omega
        have HF : Hid (mayB m = false) := Lib.hid (by
          have e1 := decide_eq_false (show ¬ br = 0 by omega)
          have e2 := decide_eq_false (show ¬ l.length = 0 by omega)
          rw [HM.out, e1, e2]; simp)
        clear HM h1 h2 h3
        go_enter Try.func22, Try.ntmps22
        go_wp2_with fail
        go_ret
        exact ⟨ret_bool HF.out.symm, bel_alloc _ _⟩
      · have HF : Hid (mayB m = upB l) := Lib.hid (by
          rw [HM.out, decide_eq_true (show 0 ≤ sq by omega), decide_eq_true (show 0 ≤ br by omega)]
          have : (decide (br = 0) || decide (l.length = 0)) = true := by
            by_cases hb : br = 0
            · rw [decide_eq_true hb]; rfl
            · rw [decide_eq_true (show l.length = 0 by omega), Bool.or_true]
          rw [this]; simp)
        by_cases h4 : 0 < br
        · have hd3 : decide (0 < br) = true := by simp; omega
          have hl0 : l = [] := List.eq_nil_of_length_eq_zero (by omega)
          subst hl0
          clear h1 h2 h3 h4 hlen hr HM
          go_enter Try.func22, Try.ntmps22
          go_wp2_with fail
          go_loop [27] (fun i => i = .int .i64 0) (fun _ => 0)
          case atStart => rfl
          case round =>
            subst hrel
            go_wp2_with fail
            go_ret
            exact ⟨ret_bool HF.out.symm, bel_alloc _ _⟩
        · have hd3 : decide (0 < br) = false := by simp; omega
          have HR := Lib.hid hr
          clear h1 h2 h3 h4 hr HM
          go_enter Try.func22, Try.ntmps22
          go_wp2_with fail
          obtain ⟨w1, hw1⟩ : ∃ w1, w.alloc (.cells #[.int .i64 sq, .int .i64 br, .slice a l.length c] 33) = w1 := ⟨_, rfl⟩
          have hml : w1.cell? ⟨w.heap.size, 2, none⟩ = some (.slice a l.length c) := by rw [← hw1]; exact cell_row w _ _ 2 _ rfl
          have hb1 : Below w.heap.size w w1 := by rw [← hw1]; exact bel_alloc _ _
          have hsz1 : w.heap.size < w1.heap.size := by rw [← hw1]; simp
          have HML := Lib.hid hml
          have HR1 := Lib.hid (HR.out.below hb1)
          rw [hw1]
          clear hw1 hml HR
          go_loopw [27] (fun i wr => ∃ k, k ≤ l.length ∧ i = .int .i64 k ∧ Below w1.heap.size w1 wr ∧ Hid (Rises l k)) (fun i _ => l.length - (intOf i).toNat)
          case atStart => exact ⟨0, Nat.zero_le _, rfl, Below.refl _ _, Lib.hid (Rises.zero _)⟩
          case round =>
            obtain ⟨k, hk, rfl, hbw, HRI⟩ := hrel
            by_cases hlt : k < l.length
            · obtain ⟨r, hr⟩ : ∃ r, l[k]? = some r := ⟨l[k], by simp [hlt]⟩
              obtain ⟨b, o, rfl, hcap, hbl, hcells⟩ := reads3 (HR1.out.below hbw) k r hr
              obtain ⟨g0, g1, g2⟩ := hcells k r hr
              have hml := (hbw.cell (p := ⟨w.heap.size, 2, none⟩) hsz1).trans HML.out
              have hsz3 : w.heap.size < wr.heap.size := by have := hbw.size; omega
              by_cases h0 : k = 0
              · have hd5 : decide (0 < k) = false := by simp; omega
                have hd6 : decide ((0 : Int) < (k : Int)) = false := by simp; omega
                have H0 := Lib.hid h0
                clear hcells hr h0
                go_wp2_with fail
                go_quiet (fail)
                go_wp2
                go_roundw
                case rel =>
                  have h0 := H0.out
                  subst h0
                  exact ⟨1, by omega, by go_num, bel_trans hbw (bel_alloc_drewN _ _ _), Lib.hid (Rises.one _)⟩
                case measure => simp [intOf]; omega
              · obtain ⟨j, rfl⟩ : ∃ j, k = j + 1 := ⟨k - 1, by omega⟩
                obtain ⟨q, hq⟩ : ∃ q, l[j]? = some q := ⟨l[j]'(by omega), by simp⟩
                obtain ⟨q0, -, -⟩ := hcells j q hq
                have HRR := Lib.hid hr
                have HQ := Lib.hid hq
                clear hcells hr hq h0
                by_cases hle : r.1 ≤ q.1
                · have hdl : decide (r.1 ≤ q.1) = true := by simp; omega
                  have HBD : Hid (upB l = false) := Lib.hid (upB_bad l j q r HQ.out HRR.out (by omega))
                  have hj1 : ((j + 1 : Nat) : Int) - 1 = (j : Int) := by omega
                  have hj2 : (j : Int) < (l.length : Int) := by omega
                  go_wp2_with fail
                  go_quiet (fail)
                  go_wp2
                  go_ret
                  exact ⟨ret_bool (by rw [HF.out, HBD.out]), bel_trans hb1 (bel_trans hbw (bel_alloc_drewN _ _ _))⟩
                · have hdl : decide (r.1 ≤ q.1) = false := by simp; omega
                  have HNX := Lib.hid (HRI.out.next (fun x y hx hy => by
                    rw [HQ.out] at hx; rw [HRR.out] at hy
                    cases hx; cases hy; omega))
                  have hj1 : ((j + 1 : Nat) : Int) - 1 = (j : Int) := by omega
                  have hj2 : (j : Int) < (l.length : Int) := by omega
                  go_wp2_with fail
                  go_quiet (fail)
                  go_wp2
                  go_roundw
                  case rel => exact ⟨j + 1 + 1, by omega, by go_num, bel_trans hbw (bel_alloc_drewN _ _ _), Lib.hid HNX.out⟩
                  case measure => simp [intOf]; omega
            · go_wp2_with fail
              go_ret
              exact ⟨ret_bool (by rw [HF.out, HRI.out.all (by omega)]), bel_trans hb1 hbw⟩

set_option maxHeartbeats 2000000 in
theorem refmay_any (m : MsgP) (lv : Value) (w : World) (hr : Reads w lv m.l.length (recCells m.l)) :
    Calls Try.prog 24 #[.agg #[.int .i64 m.seq, .int .i64 m.bar, lv]] w fun e w' => e = .returned (.bool (mayB m)) ∧ Below w.heap.size w w' := by
  have hlen := hr.lenLe
  unfold maxLen at hlen
  obtain ⟨a, c, rfl⟩ := hr.shape
  obtain ⟨sq, hsq⟩ : ∃ sq, m.seq = sq := ⟨_, rfl⟩
  obtain ⟨br, hbr⟩ : ∃ br, m.bar = br := ⟨_, rfl⟩
  obtain ⟨l, hl⟩ : ∃ l, m.l = l := ⟨_, rfl⟩
  have hm : mayB m = (decide (0 ≤ sq) && decide (0 ≤ br) && (decide (br = 0) || decide (l.length = 0)) && upB l) := by unfold mayB; rw [hsq, hbr, hl]
  rw [hsq, hbr]
  rw [hl] at hr hlen ⊢
  have HM := Lib.hid hm
  have HR := Lib.hid hr
  clear hm hsq hbr hl hr
  go_enter Try.func24, Try.ntmps24
  go_wp2_with fail
  obtain ⟨w1, hw1⟩ : ∃ w1, w.alloc (.cells #[.int .i64 sq, .int .i64 br, .slice a l.length c] 33) = w1 := ⟨_, rfl⟩
  have hml : w1.cell? ⟨w.heap.size, 2, none⟩ = some (.slice a l.length c) := by rw [← hw1]; exact cell_row w _ _ 2 _ rfl
  have hm0 : w1.cell? ⟨w.heap.size, 0, none⟩ = some (.int .i64 sq) := by rw [← hw1]; exact cell_row w _ _ 0 _ rfl
  have hm1 : w1.cell? ⟨w.heap.size, 1, none⟩ = some (.int .i64 br) := by rw [← hw1]; exact cell_row w _ _ 1 _ rfl
  have hb1 : Below w.heap.size w w1 := by rw [← hw1]; exact bel_alloc _ _
  have HR1 := Lib.hid (HR.out.below hb1)
  rw [hw1]
  clear hw1 HR
  go_loopw [3] (fun i wr => ∃ k n : Nat, 1 ≤ k ∧ (k ≤ l.length ∨ k = 1) ∧ i = .int .i64 k ∧ wr = w1.drewN n ∧ Hid (Rises l k)) (fun i _ => l.length - (intOf i).toNat)
  case atStart => exact ⟨1, 0, by omega, .inr rfl, rfl, rfl, Lib.hid (Rises.one _)⟩
  case round =>
    obtain ⟨k, n, hk1, hk, rfl, rfl, HRI⟩ := hrel
    by_cases hlt : k < l.length
    · obtain ⟨j, rfl⟩ : ∃ j, k = j + 1 := ⟨k - 1, by omega⟩
      obtain ⟨r, hr⟩ : ∃ r, l[j + 1]? = some r := ⟨l[j + 1], by simp [hlt]⟩
      obtain ⟨q, hq⟩ : ∃ q, l[j]? = some q := ⟨l[j]'(by omega), by simp⟩
      obtain ⟨b, o, rfl, hcap, hbl, hcells⟩ := reads3 HR1.out (j + 1) r hr
      obtain ⟨g0, -, -⟩ := hcells (j + 1) r hr
      obtain ⟨q0, -, -⟩ := hcells j q hq
      have HRR := Lib.hid hr
      have HQ := Lib.hid hq
      have hj1 : ((j + 1 : Nat) : Int) - 1 = (j : Int) := by omega
      have hj2 : (j : Int) < (l.length : Int) := by omega
      clear hcells hr hq hk hk1
      by_cases hle : r.1 ≤ q.1
      · have hdl : decide (r.1 ≤ q.1) = true := by simp; omega
        have HBD : Hid (upB l = false) := Lib.hid (upB_bad l j q r HQ.out HRR.out (by omega))
        have HF : Hid (mayB m = false) := Lib.hid (by rw [HM.out, HBD.out, Bool.and_false])
        go_wp2_with fail
        go_quiet (fail)
        go_wp2
        go_ret
        exact ⟨ret_bool HF.out.symm, bel_trans hb1 (bel_trans (bel_drewN _ _) (bel_drewN _ _))⟩
      · have hdl : decide (r.1 ≤ q.1) = false := by simp; omega
        have HNX := Lib.hid (HRI.out.next (fun x y hx hy => by
          rw [HQ.out] at hx; rw [HRR.out] at hy
          cases hx; cases hy; omega))
        go_wp2_with fail
        go_quiet (fail)
        go_wp2
        go_roundw
        case rel => exact ⟨j + 1 + 1, _, by omega, .inl (by omega), by go_num, rfl, Lib.hid HNX.out⟩
        case measure => simp [intOf]; omega
    · have HF : Hid (mayB m = (decide (0 ≤ sq) && decide (0 ≤ br) && (decide (br = 0) || decide (l.length = 0)))) := Lib.hid (by
        rw [HM.out, HRI.out.all (by omega), Bool.and_true])
      clear hk hk1
      have hbz : (br == 0) = decide (br = 0) := rfl
      by_cases h1 : 0 ≤ sq
      · have d1 : decide (0 ≤ sq) = true := decide_eq_true h1
        by_cases h2 : 0 ≤ br
        · have d2 : decide (0 ≤ br) = true := decide_eq_true h2
          rw [d1, d2] at HF
          by_cases h3 : br = 0
          · have d3 : (br == 0) = true := by rw [h3]; rfl
            have HFF : Hid (mayB m = true) := Lib.hid (by rw [HF.out, decide_eq_true h3]; rfl)
            clear h1 h2 h3 HF hbz
            go_wp2_with fail
            go_ret
            exact ⟨ret_bool HFF.out.symm, bel_trans hb1 (bel_drewN _ _)⟩
          · have d3 : (br == 0) = false := beq_eq_false_iff_ne.2 h3
            have HFF : Hid (mayB m = decide (l.length = 0)) := Lib.hid (by rw [HF.out, decide_eq_false h3]; simp)
            clear h1 h2 h3 HF hbz
            go_wp2_with fail
            go_ret
            refine ⟨ret_bool ?_, bel_trans hb1 (bel_drewN _ _)⟩
            rw [HFF.out, Bool.eq_iff_iff]; simp
        · have d2 : decide (0 ≤ br) = false := decide_eq_false h2
          have HFF : Hid (mayB m = false) := Lib.hid (by rw [HF.out, d1, d2]; rfl)
          clear h1 h2 HF hbz
          go_wp2_with fail
          go_ret
          exact ⟨ret_bool HFF.out.symm, bel_trans hb1 (bel_drewN _ _)⟩
      · have d1 : decide (0 ≤ sq) = false := decide_eq_false h1
        have HFF : Hid (mayB m = false) := Lib.hid (by rw [HF.out, d1]; rfl)
        clear h1 HF hbz
        go_wp2_with fail
        go_ret
        exact ⟨ret_bool HFF.out.symm, bel_trans hb1 (bel_drewN _ _)⟩

end Go.Proofs.Ytgoglcggnmfapaa
