/-
  What reads an output: last, is, Marked, Told.
-/
import Derived.Test.YtllecjhfbojgcaaOutAt
import Derived.WalkKit
namespace Go.Proofs.Ytllecjhfbojgcaa
open Go.RowKit
set_option maxRecDepth 20000

theorem PartAt.cells {w : World} {b l : Nat} {rs : List ORec} {P : Nat → Prop} (h : PartAt w b l rs P) : ∃ lv qs, w.heap[b]? = some (.cells #[ptr l 0, lv] 140) ∧ RowAt w 142 3 lv rs.length (oCells qs) ∧ qs.length = rs.length ∧ ∀ (k : Nat) r, rs[k]? = some r → ∃ v, qs[k]? = some (r, v) ∧ Reads w v r.l.length (outCells r.l) := by
  obtain ⟨lv, qs, h1, h2, h3, h4, h5⟩ := h.ex
  refine ⟨lv, qs, h1, h2, by rw [← h3, List.length_map], fun k r hr => ?_⟩
  rw [← h3, List.getElem?_map] at hr
  cases hq : qs[k]? with
  | none => rw [hq] at hr; cases hr
  | some q =>
    rw [hq] at hr
    obtain ⟨r', v⟩ := q
    simp only [Option.map_some, Option.some.injEq] at hr
    subst hr
    exact ⟨v, rfl, (h5 _ (List.mem_of_getElem? hq)).1⟩

set_option maxHeartbeats 4000000 in
theorem last_any {w : World} {b l : Nat} {rs : List ORec} {P : Nat → Prop} (h : PartAt w b l rs P) (k : UInt8) (kz : Int) (hkz : (k.toNat : Int) = kz) :
    Calls Try.prog 77 #[ptr b 0, .int .u8 kz] w fun e w' => e = .returned (.int .i64 (lastO rs k)) ∧ Below w.heap.size w w' := by
  obtain ⟨lv, qs, hc, hr, hqs, hat⟩ := h.cells
  have hrd := hr.reads
  have hlen := hrd.lenLe
  unfold maxLen at hlen
  obtain ⟨m, hm⟩ : ∃ m, rs.length = m := ⟨_, rfl⟩
  obtain ⟨a, c, rfl⟩ := hrd.shape
  have c1 := cells_at hc 1 _ rfl
  simp only [List.getElem_toArray, List.getElem_cons_zero, List.getElem_cons_succ] at c1
  have HM := Lib.hid hm
  have HAT := Lib.hid hat
  have HRD := Lib.hid hrd
  have HKZ := Lib.hid hkz
  rw [hm] at c1 hlen
  clear h hc hr hqs hat hrd hm hkz
  unfold ptr
  go_enter Try.func77, Try.ntmps77
  go_wp2_with fail
  go_loopw [5, 13] (fun n i wr => ∃ q : Nat, q ≤ m ∧ i = .int .i64 (q : Int) ∧ n = .int .i64 (lastO (rs.take q) k) ∧ Hid (Below w.heap.size w wr)) (fun _ i _ => m - (intOf i).toNat)
  case atStart => exact ⟨0, Nat.zero_le _, rfl, by rw [List.take_zero]; rfl, Lib.hid (Below.refl _ _)⟩
  case round =>
    obtain ⟨q, hq, rfl, rfl, HB⟩ := hrel
    by_cases hlt : q < m
    · obtain ⟨r, hr⟩ : ∃ r, rs[q]? = some r := ⟨rs[q]'(by rw [HM.out]; omega), by simp⟩
      obtain ⟨v, hqv, hvr⟩ := HAT.out q r hr
      obtain ⟨va, vc, rfl⟩ := hvr.shape
      obtain ⟨vl, hvl⟩ : ∃ n, r.l.length = n := ⟨_, rfl⟩
      rw [hvl] at hqv
      clear hvr hvl
      have hqk : (q : Int) < (m : Int) := by omega
      obtain ⟨b', o', cap, hv, hcap, hcm, hblt, hcells⟩ := HRD.out.some (by rw [HM.out]; omega)
      cases hv
      obtain ⟨i0, i1, i2⟩ := oCells_at qs q (r, .slice va vl vc) hqv
      have r0 := (World.cell?_of_block (HB.out.block b' hblt)).trans (hcells _ _ i0)
      have r1 := (World.cell?_of_block (HB.out.block b' hblt)).trans (hcells _ _ i1)
      have r2 := (World.cell?_of_block (HB.out.block b' hblt)).trans (hcells _ _ i2)
      rw [← Nat.add_assoc] at r1 r2
      have htk : lastO (rs.take (q + 1)) k = if r.kind = k then r.n else lastO (rs.take q) k := by
        rw [List.take_add_one, hr]
        exact lastO_snoc _ _ _
      have HTK := Lib.hid htk
      have HB2 := Lib.hid (bel_trans HB.out (bel_alloc wr (.cells #[.int .u8 (r.kind.toNat : Int), .int .i64 r.n, .slice va vl vc] 142)))
      clear hr hqv i0 i1 i2 hcells htk
      obtain ⟨rk, rn, rl⟩ := r
      simp only at r0 r1 r2
      by_cases hkk : rk = k
      · subst hkk
        have hkz := HKZ.out
        obtain ⟨z, hz⟩ : ∃ z, (rk.toNat : Int) = z := ⟨_, rfl⟩
        rw [hz] at r0 hkz HB2
        have hkz : z = kz := hkz
        subst hkz
        clear hz
        go_wp2_with fail
        go_roundw
        case rel => exact ⟨q + 1, by omega, by go_num, by rw [HTK.out, if_pos rfl], HB2⟩
        case measure => simp [intOf]; omega
      · have hkn : ¬ (rk.toNat : Int) = kz := by
          intro e
          rw [← HKZ.out] at e
          exact hkk (UInt8.toNat_inj.1 (by omega))
        obtain ⟨z, hz⟩ : ∃ z, (rk.toNat : Int) = z := ⟨_, rfl⟩
        rw [hz] at r0 hkn HB2
        have hkb : (z == kz) = false := by simpa using hkn
        clear hz
        go_wp2_with fail
        go_roundw
        case rel => exact ⟨q + 1, by omega, by go_num, by rw [HTK.out, if_neg hkk], HB2⟩
        case measure => simp [intOf]; omega
    · have hqe : q = m := by omega
      subst hqe
      have hqq : ¬ (q : Int) < (q : Int) := by omega
      clear hlt
      have hall : rs.take q = rs := List.take_of_length_le (by rw [HM.out]; exact Nat.le_refl _)
      rw [hall]
      clear hall
      go_wp2_with fail
      go_ret
      exact ⟨rfl, HB.out⟩

theorem is_nil (i : Int) (w : World) : Calls Try.prog 71 #[.pointer none, .int .i64 i] w fun e w' => e = .returned (.bool false) ∧ w = w' := by
  go_enter Try.func71, Try.ntmps71
  go_wp2_with fail
  go_ret
  exact ⟨rfl, rfl⟩
theorem is_some (o : Nat) (i : Int) (w : World) : Calls Try.prog 71 #[ptr o 0, .int .i64 i] w fun e w' => e = .returned (.bool (decide (0 ≤ i) && decide (i < 2))) ∧ w = w' := by
  unfold ptr
  by_cases h0 : 0 ≤ i
  · by_cases h1 : i < 2
    · have e : (decide (0 ≤ i) && decide (i < 2)) = true := by simp [h0, h1]
      rw [e]
      clear e
      go_enter Try.func71, Try.ntmps71
      go_wp2_with fail
      go_ret
      exact ⟨rfl, rfl⟩
    · have e : (decide (0 ≤ i) && decide (i < 2)) = false := by simp [h0, h1]
      rw [e]
      clear e
      go_enter Try.func71, Try.ntmps71
      go_wp2_with fail
      go_ret
      exact ⟨rfl, rfl⟩
  · have e : (decide (0 ≤ i) && decide (i < 2)) = false := by simp [h0]
    rw [e]
    clear e
    go_enter Try.func71, Try.ntmps71
    go_wp2_with fail
    go_ret
    exact ⟨rfl, rfl⟩

def iP (p : Bool) : Int := if p then 1 else 0
theorem OutAt.cells {fr : Fr} {w : World} {o d : Nat} {b l : Bool → Nat} {S : OSt} {col : Nat → Nat} (h : OutAt fr w o d b l S col) (p : Bool) : w.cell? ⟨o, (if p then 1 else 0), none⟩ = some (ptr (b p) 0) := by
  cases p
  · exact cells_at h.cell 0 _ rfl
  · exact cells_at h.cell 1 _ rfl

theorem told_nil (i : Int) (w : World) : Calls Try.prog 42 #[.pointer none, .int .i64 i] w fun e w' => e = .returned (.int .i64 0) ∧ w = w' := by
  go_enter Try.func42, Try.ntmps42
  go_wp2_with fail
  refine (is_nil i w).mono ?_
  rintro e w' ⟨rfl, rfl⟩
  go_wp2_with fail
  go_ret
  exact ⟨rfl, rfl⟩
theorem marked_nil (i : Int) (w : World) : Calls Try.prog 40 #[.pointer none, .int .i64 i] w fun e w' => e = .returned (.int .i64 0) ∧ w = w' := by
  go_enter Try.func40, Try.ntmps40
  go_wp2_with fail
  refine (is_nil i w).mono ?_
  rintro e w' ⟨rfl, rfl⟩
  go_wp2_with fail
  go_ret
  exact ⟨rfl, rfl⟩
theorem told_no (o : Nat) (i : Int) (hi : ¬ (0 ≤ i ∧ i < 2)) (w : World) : Calls Try.prog 42 #[ptr o 0, .int .i64 i] w fun e w' => e = .returned (.int .i64 0) ∧ w = w' := by
  have e : (decide (0 ≤ i) && decide (i < 2)) = false := by
    rw [← Bool.decide_and]; exact decide_eq_false hi
  have his := is_some o i w
  rw [e] at his
  clear e
  unfold ptr at his ⊢
  go_enter Try.func42, Try.ntmps42
  go_wp2_with fail
  refine (his).mono ?_
  rintro e w' ⟨rfl, rfl⟩
  go_wp2_with fail
  go_ret
  exact ⟨rfl, rfl⟩
theorem marked_no (o : Nat) (i : Int) (hi : ¬ (0 ≤ i ∧ i < 2)) (w : World) : Calls Try.prog 40 #[ptr o 0, .int .i64 i] w fun e w' => e = .returned (.int .i64 0) ∧ w = w' := by
  have e : (decide (0 ≤ i) && decide (i < 2)) = false := by
    rw [← Bool.decide_and]; exact decide_eq_false hi
  have his := is_some o i w
  rw [e] at his
  clear e
  unfold ptr at his ⊢
  go_enter Try.func40, Try.ntmps40
  go_wp2_with fail
  refine (his).mono ?_
  rintro e w' ⟨rfl, rfl⟩
  go_wp2_with fail
  go_ret
  exact ⟨rfl, rfl⟩

theorem told_any {fr : Fr} {w : World} {o d : Nat} {S : OSt} (h : OutLive fr w o d S) (p : Bool) :
    Calls Try.prog 42 #[ptr o 0, .int .i64 (iP p)] w fun e w' => e = .returned (.int .i64 (lastO (S.r p) 1)) ∧ Below w.heap.size w w' := by
  obtain ⟨b, l, col, h⟩ := h
  have hc := h.cells p
  have hp := h.part p
  have HL := Lib.hid (last_any hp 1 1 (by decide))
  have his := is_some o (iP p) w
  clear hp h
  unfold ptr at his hc HL ⊢
  cases p
  · rw [show iP false = 0 from rfl] at his ⊢
    replace hc : w.cell? ⟨o, 0, none⟩ = some (.pointer (some ⟨b false, 0, none⟩)) := hc
    go_enter Try.func42, Try.ntmps42
    go_wp2_with fail
    refine (his).mono ?_
    rintro e w' ⟨rfl, rfl⟩
    go_wp2_with fail
    refine HL.out.mono ?_
    rintro e w' ⟨rfl, hb⟩
    have HB := Lib.hid hb
    clear hb
    go_wp2_with fail
    go_ret
    exact ⟨rfl, HB.out⟩
  · rw [show iP true = 1 from rfl] at his ⊢
    replace hc : w.cell? ⟨o, 1, none⟩ = some (.pointer (some ⟨b true, 0, none⟩)) := hc
    go_enter Try.func42, Try.ntmps42
    go_wp2_with fail
    refine (his).mono ?_
    rintro e w' ⟨rfl, rfl⟩
    go_wp2_with fail
    refine HL.out.mono ?_
    rintro e w' ⟨rfl, hb⟩
    have HB := Lib.hid hb
    clear hb
    go_wp2_with fail
    go_ret
    exact ⟨rfl, HB.out⟩
theorem marked_any {fr : Fr} {w : World} {o d : Nat} {S : OSt} (h : OutLive fr w o d S) (p : Bool) :
    Calls Try.prog 40 #[ptr o 0, .int .i64 (iP p)] w fun e w' => e = .returned (.int .i64 (lastO (S.r p) 2)) ∧ Below w.heap.size w w' := by
  obtain ⟨b, l, col, h⟩ := h
  have hc := h.cells p
  have hp := h.part p
  have HL := Lib.hid (last_any hp 2 2 (by decide))
  have his := is_some o (iP p) w
  clear hp h
  unfold ptr at his hc HL ⊢
  cases p
  · rw [show iP false = 0 from rfl] at his ⊢
    replace hc : w.cell? ⟨o, 0, none⟩ = some (.pointer (some ⟨b false, 0, none⟩)) := hc
    go_enter Try.func40, Try.ntmps40
    go_wp2_with fail
    refine (his).mono ?_
    rintro e w' ⟨rfl, rfl⟩
    go_wp2_with fail
    refine HL.out.mono ?_
    rintro e w' ⟨rfl, hb⟩
    have HB := Lib.hid hb
    clear hb
    go_wp2_with fail
    go_ret
    exact ⟨rfl, HB.out⟩
  · rw [show iP true = 1 from rfl] at his ⊢
    replace hc : w.cell? ⟨o, 1, none⟩ = some (.pointer (some ⟨b true, 0, none⟩)) := hc
    go_enter Try.func40, Try.ntmps40
    go_wp2_with fail
    refine (his).mono ?_
    rintro e w' ⟨rfl, rfl⟩
    go_wp2_with fail
    refine HL.out.mono ?_
    rintro e w' ⟨rfl, hb⟩
    have HB := Lib.hid hb
    clear hb
    go_wp2_with fail
    go_ret
    exact ⟨rfl, HB.out⟩

end Go.Proofs.Ytllecjhfbojgcaa
