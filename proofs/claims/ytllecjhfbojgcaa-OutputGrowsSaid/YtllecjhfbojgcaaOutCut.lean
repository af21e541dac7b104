/-
  The output's Cut walked.
-/
import Derived.Test.YtllecjhfbojgcaaOutMark
namespace Go.Proofs.Ytllecjhfbojgcaa
open Go.RowKit
set_option maxRecDepth 20000

theorem beyond_none {rs : List ORec} {n : Int} (h : ∀ (k : Nat) r, rs[k]? = some r → r.n ≤ n) : beyond rs n = none := by
  unfold beyond
  rw [List.findIdx?_eq_none_iff]
  intro r hr
  obtain ⟨k, hk⟩ := List.mem_iff_getElem?.1 hr
  simpa using h k r hk
theorem beyond_some {rs : List ORec} {n : Int} {q : Nat} {r : ORec} (hr : rs[q]? = some r) (hn : n < r.n) (h : ∀ (k : Nat) r, k < q → rs[k]? = some r → r.n ≤ n) : beyond rs n = some q := by
  unfold beyond
  rw [List.findIdx?_eq_some_iff_getElem]
  obtain ⟨hl, he⟩ := List.getElem?_eq_some_iff.1 hr
  refine ⟨hl, by simp [he, hn], fun j hj => ?_⟩
  have := h j rs[j] hj (by simp)
  simp
  omega
theorem beyond_lt {rs : List ORec} {n : Int} {q : Nat} (h : beyond rs n = some q) : q < rs.length := by
  unfold beyond at h
  rw [List.findIdx?_eq_some_iff_getElem] at h
  exact h.1

theorem cut11_any (w : World) (r : ORec) (v : Value) (a : Option Addr) (k c : Nat) (hv : v = .slice a k c) (n : Int) (g : Nat) (hg : w.heap[g]? = some (.cells #[.int .i64 n] 2)) (kz : Int) :
    Calls Try.prog 80 #[.agg #[.int .u8 kz, .int .i64 r.n, v], ptr g 0] w fun e w' => e = .returned (.bool (decide (n < r.n))) ∧ Below w.heap.size w w' := by
  subst hv
  have hg2 := ((bel_alloc w (.cells #[.int .u8 kz, .int .i64 r.n, .slice a k c] 142)).block g (Array.getElem?_eq_some_iff.1 hg).1).trans hg
  have c0 := cells_at hg2 0 _ rfl
  simp only [List.getElem_toArray, List.getElem_cons_zero] at c0
  obtain ⟨m, hm⟩ : ∃ m, r.n = m := ⟨_, rfl⟩
  rw [hm] at c0 ⊢
  clear hg hg2 hm
  unfold ptr
  go_enter Try.func80, Try.ntmps80
  go_wp2_with fail
  go_ret
  exact ⟨rfl, bel_alloc _ _⟩

set_option maxHeartbeats 8000000 in
theorem indexfunc_any {w : World} {b l : Nat} {rs : List ORec} {P : Nat → Prop} (h : PartAt w b l rs P) (n : Int) (g : Nat) (hg : w.heap[g]? = some (.cells #[.int .i64 n] 2)) (lv : Value) (lt : Value) (hlv : w.heap[b]? = some (.cells #[lt, lv] 140)) :
    Calls Try.prog 79 #[lv, .func (.func 80) #[] #[ptr g 0]] w fun e w' => e = .returned (.int .i64 (match beyond rs n with | some k => (k : Int) | none => -1)) ∧ Below w.heap.size w w' := by
  obtain ⟨lv', qs, hc, hr, hqs, hat⟩ := h.cells
  have hlv2 : lv = lv' := by
    rw [hc] at hlv
    simp at hlv
    exact hlv.2.symm
  subst hlv2
  have hrd := hr.reads
  have hlen := hrd.lenLe
  unfold maxLen at hlen
  obtain ⟨m, hm⟩ : ∃ m, rs.length = m := ⟨_, rfl⟩
  obtain ⟨a, c, rfl⟩ := hrd.shape
  have HM := Lib.hid hm
  have HAT := Lib.hid hat
  have HRD := Lib.hid hrd
  have HG := Lib.hid hg
  have hent := enters_run Try.func80 (by kernel_rfl) rfl
  rw [hm] at hlen HRD ⊢
  obtain ⟨Z, hZ⟩ : ∃ Z : Int, (match beyond rs n with | some k => (k : Int) | none => -1) = Z := ⟨_, rfl⟩
  rw [hZ]
  have HZ := Lib.hid hZ
  clear h hc hr hqs hat hrd hm hlv hg hZ
  unfold ptr
  go_enter Try.func79, Try.ntmps79
  go_wp2_with fail
  go_loopw [8] (fun i wr => ∃ q : Nat, q ≤ m ∧ i = .int .i64 (q : Int) ∧ Hid (∀ (k : Nat) r, k < q → rs[k]? = some r → r.n ≤ n) ∧ Hid (Below w.heap.size w wr)) (fun i _ => m - (intOf i).toNat)
  case atStart => exact ⟨0, Nat.zero_le _, rfl, Lib.hid (fun k r hk _ => by omega), Lib.hid (Below.refl _ _)⟩
  case round =>
    obtain ⟨q, hq, rfl, HNO, HB⟩ := hrel
    by_cases hlt : q < m
    · obtain ⟨r, hr⟩ : ∃ r, rs[q]? = some r := ⟨rs[q]'(by rw [HM.out]; omega), by simp⟩
      obtain ⟨v, hqv, hvr⟩ := HAT.out q r hr
      obtain ⟨va, vc, rfl⟩ := hvr.shape
      have hqk : (q : Int) < (m : Int) := by omega
      obtain ⟨b', o', cap, hv, hcap, hcm, hblt, hcells⟩ := HRD.out.some (by omega)
      cases hv
      obtain ⟨g0, g1, g2⟩ := oCells_at qs q _ hqv
      have r0 := (World.cell?_of_block (HB.out.block b' hblt)).trans (hcells _ _ g0)
      have r1 := (World.cell?_of_block (HB.out.block b' hblt)).trans (hcells _ _ g1)
      have r2 := (World.cell?_of_block (HB.out.block b' hblt)).trans (hcells _ _ g2)
      rw [← Nat.add_assoc] at r1 r2
      have HR := Lib.hid hr
      obtain ⟨vl, hvl⟩ : ∃ n, r.l.length = n := ⟨_, rfl⟩
      rw [hvl] at r2
      have hgr := (HB.out.block g (Array.getElem?_eq_some_iff.1 HG.out).1).trans HG.out
      obtain ⟨z, hz⟩ : ∃ z, (r.kind.toNat : Int) = z := ⟨_, rfl⟩
      simp only [hz] at r0
      have hcl := cut11_any wr r (.slice va vl vc) va vl vc rfl n g hgr z
      obtain ⟨T, hT⟩ : ∃ T, decide (n < r.n) = T := ⟨_, rfl⟩
      rw [hT] at hcl
      have HT := Lib.hid hT
      obtain ⟨rn, hrn⟩ : ∃ x, r.n = x := ⟨_, rfl⟩
      rw [hrn] at hcl
      simp only [hrn] at r1
      have HRN := Lib.hid hrn
      unfold ptr at hcl
      have HCL := Lib.hid hcl
      clear hr hqv hvr hvl g0 g1 g2 hcells hgr hz hcl hT hrn
      go_wp2_with fail
      refine HCL.out.mono ?_
      rintro e w3 ⟨rfl, hb3⟩
      have HB3 := Lib.hid (bel_trans HB.out hb3)
      clear hb3
      cases T with
      | true =>
        have hn : n < r.n := by have := HT.out; rw [HRN.out] at *; simpa using this
        have hz : Z = (q : Int) := by rw [← HZ.out, beyond_some HR.out hn HNO.out]
        have HZ2 := Lib.hid hz
        clear hn hz
        go_wp2_with fail
        go_ret
        rw [HZ2.out]
        exact ⟨rfl, HB3.out⟩
      | false =>
        have hn : r.n ≤ n := by have := HT.out; rw [HRN.out] at *; simpa using this
        have HNO2 := Lib.hid (show ∀ (k : Nat) r, k < q + 1 → rs[k]? = some r → r.n ≤ n from fun k r' hk hr' => by
          by_cases e : k = q
          · subst e
            rw [HR.out] at hr'
            cases hr'
            exact hn
          · exact HNO.out k r' (by omega) hr')
        clear hn
        go_wp2_with fail
        go_roundw
        case rel => exact ⟨q + 1, by omega, by go_num, HNO2, HB3⟩
        case measure => simp [intOf]; omega
    · have hqe : q = m := by omega
      subst hqe
      have hqq : ¬ (q : Int) < (q : Int) := by omega
      clear hlt
      have hz : Z = -1 := by
        rw [← HZ.out, beyond_none (fun k r hr => HNO.out k r (by have := (List.getElem?_eq_some_iff.1 hr).1; have := HM.out; omega) hr)]
      have HZ2 := Lib.hid hz
      clear hz
      go_wp2_with fail
      go_ret
      rw [HZ2.out]
      exact ⟨rfl, HB.out⟩

/-- A row cut to its first records. -/
theorem part_cut {w : World} {b l : Nat} {rs : List ORec} {P : Nat → Prop} (h : PartAt w b l rs P) (k : Nat) (hk : k < rs.length) :
    ∃ a c, w.heap[b]? = some (.cells #[ptr l 0, .slice (some a) rs.length c] 140) ∧ k ≤ c ∧ PartAt (w.setCell ⟨b, 1, none⟩ (.slice (some a) k k)) b l (rs.take k) P ∧ Only P w (w.setCell ⟨b, 1, none⟩ (.slice (some a) k k)) ∧ rs.length ≤ 9223372036854775807 ∧ c ≤ 9223372036854775807 := by
  obtain ⟨lv, qs, h1, h2, h3, h4, h5⟩ := h.ex
  have hlen := h2.reads.lenLe
  obtain ⟨g, c, rfl, hc1, hc2, hc3⟩ := h2.cut k (by omega) (by omega)
  have hgb : g ≠ b := fun e => by
    subst e
    obtain ⟨cur, hcur⟩ := h2.type g rfl
    exact far hcur h1 (by decide) rfl
  have hset : ∀ x, x ≠ b → (w.setCell ⟨b, 1, none⟩ (.slice (some ⟨g, 0, none⟩) k k)).heap[x]? = w.heap[x]? := fun x hx => Below.heap_setCell _ _ _ _ (by exact hx)
  unfold maxLen at hlen hc2
  refine ⟨⟨g, 0, none⟩, c, h1, by omega, ⟨h.mem, fun x hx => by rw [World.size_setCell]; exact h.lt x hx, .slice (some ⟨g, 0, none⟩) k k, qs.take k, ?_, ?_, by rw [List.map_take, h3], fun x hx => h4 x hx, fun q hq => ?_⟩, Only.setCell P w ⟨b, 1, none⟩ _ h.mem, by omega, by omega⟩
  · rw [cells_set h1]; rfl
  · rw [List.length_take, Nat.min_eq_left (by omega), oCells_take]
    refine hc3.kept (fun x hx => hset x ?_)
    simp only [Value.ownBlock, Option.some.injEq] at hx
    rw [← hx]
    exact hgb
  · obtain ⟨q1, q2⟩ := h5 q (List.mem_of_mem_take hq)
    have hne : ∀ x, q.2.ownBlock = some x → x ≠ b := fun x hx e => by
      obtain ⟨-, cur, hcur⟩ := q2 x hx
      rw [e] at hcur
      exact far hcur h1 (by decide) rfl
    refine ⟨q1.ownKept (by rw [World.size_setCell]; exact Nat.le_refl _) (fun x hx => hset x (hne x hx)), fun x hx => ⟨(q2 x hx).1, ?_⟩⟩
    obtain ⟨-, cur, hcur⟩ := q2 x hx
    exact ⟨cur, (hset x (hne x hx)).trans hcur⟩

set_option maxHeartbeats 8000000 in
set_option maxRecDepth 100000 in
theorem cut1_any {fr : Fr} {w : World} {o d : Nat} {b l : Bool → Nat} {S : OSt} {col : Nat → Nat} (h : OutAt fr w o d b l S col) (hm : S.D.loose.length ≤ 1000000000) (p : Bool) (n : Int) (g : Nat) (hg : w.heap[g]? = some (.cells #[.int .i64 n] 2)) (hn : (S.r p).length ≤ 1000000000) (hL : (S.L p).rs.length = (S.r p).length) :
    Calls Try.prog 78 #[ptr (b p) 0, ptr g 0] w fun e w' => e = .returned (.int .i64 (OSt.cut1 n S p).1) ∧ ∃ c', OutAt fr w' o d b l (OSt.cut1 n S p).2 c' := by
  obtain ⟨lv, qs, hc, -⟩ := (h.part p).ex
  have c0 := cells_at hc 0 _ rfl
  have c1 := cells_at hc 1 _ rfl
  simp only [List.getElem_toArray, List.getElem_cons_zero, List.getElem_cons_succ] at c0 c1
  have hix := indexfunc_any (h.part p) n g hg lv _ hc
  have hbl := (Array.getElem?_eq_some_iff.1 hc).1
  have HBP := Lib.hid (fun (X : World) (hX : Below w.heap.size w X) => (hX.block (b p) hbl).trans hc)
  have HZ := Lib.hid (show OSt.cut1 n S p = match beyond (S.r p) n with
    | none => (0, S)
    | some k => ((S.lcut p k).1, if ((S.lcut p k).2.L p).rs.length = k then (S.lcut p k).2.less p k else (S.lcut p k).2) from rfl)
  obtain ⟨Z, hZ⟩ : ∃ Z, OSt.cut1 n S p = Z := ⟨_, rfl⟩
  rw [hZ] at HZ ⊢
  have HH := Lib.hid h
  have HIX := Lib.hid hix
  have HN := Lib.hid hn
  have HLL := Lib.hid hL
  have HM := Lib.hid hm
  unfold ptr at c0 HIX ⊢
  obtain ⟨B, hB⟩ : ∃ B, beyond (S.r p) n = B := ⟨_, rfl⟩
  rw [hB] at HIX HZ
  have HBB := Lib.hid hB
  have hlsh : ∃ a k c, lv = .slice a k c := by
    obtain ⟨lv', qs', hc', hr', -⟩ := (HH.out.part p).ex
    rw [hc] at hc'
    simp at hc'
    obtain ⟨a, c, he⟩ := hr'.reads.shape
    exact ⟨a, _, c, hc'.trans he⟩
  obtain ⟨la, lk, lc, rfl⟩ := hlsh
  clear h hix hn hL hm hZ hB hc hg
  cases B with
  | none =>
    have hz : Z = (0, S) := HZ.out
    have HZ2 := Lib.hid hz
    clear hz
    go_enter Try.func78, Try.ntmps78
    go_wp2_with fail
    refine HIX.out.mono ?_
    rintro e w1 ⟨rfl, hb1⟩
    have HB1 := Lib.hid hb1
    clear hb1
    go_wp2_with fail
    go_ret
    rw [HZ2.out]
    exact ⟨rfl, col, HH.out.below HB1.out⟩
  | some k =>
    have hkl := beyond_lt HBB.out
    have hz : Z = ((S.lcut p k).1, if ((S.lcut p k).2.L p).rs.length = k then (S.lcut p k).2.less p k else (S.lcut p k).2) := HZ.out
    obtain ⟨E, T, hET⟩ : ∃ E T, S.lcut p k = (E, T) := ⟨_, _, rfl⟩
    have hTr : (S.lcut p k).2.r = S.r := rfl
    rw [hET] at hz hTr
    have HCUT := Lib.hid (fun (X : World) (hX : Below w.heap.size w X) => (show Calls Try.prog 81 #[.pointer (some ⟨l p, 0, none⟩), .int .i64 (k : Int)] X fun e w' => e = .returned (.int .i64 E) ∧ ∃ col', OutAt fr w' o d b l T col' ∧ Only (fun k => col k = 1 ∨ col k = cG p) X w' from by
      have h5 := oat_cut (HH.out.below hX) p k HM.out
      rw [hET] at h5
      refine h5.mono ?_
      rintro e w' ⟨h6, c7, h7, -, -, h8⟩
      exact ⟨h6, c7, h7, h8⟩))
    have HZ2 := Lib.hid (show Z = (E, if (T.L p).rs.length = k then T.less p k else T) from hz)
    have HTR := Lib.hid (show T.r = S.r from hTr)
    have hkn : ¬ ((k : Int) < 0) := by omega
    have hkb : (k : Int) ≤ 1000000000 := by have := HN.out; omega
    clear hz hET hTr
    go_enter Try.func78, Try.ntmps78
    go_wp2_with fail
    refine HIX.out.mono ?_
    rintro e w1 ⟨rfl, hb1⟩
    have HB1 := Lib.hid hb1
    have e0 := cells_at (HBP.out w1 hb1) 0 _ rfl
    unfold ptr at e0
    simp only [List.getElem_toArray, List.getElem_cons_zero] at e0
    clear hb1 c0 c1
    go_wp2_with fail
    refine (HCUT.out w1 HB1.out).mono ?_
    rintro e w2 ⟨rfl, c2, h2, ho2⟩
    have hlen := oat_len h2 p
    unfold ptr at hlen
    obtain ⟨M, hM⟩ : ∃ M, (T.L p).rs.length = M := ⟨_, rfl⟩
    rw [hM] at hlen
    have hp2 := h2.part p
    rw [HTR.out] at hp2
    obtain ⟨a5, c5, hcb, hk5, hpc, hoc, hl5, hc5⟩ := part_cut hp2 k hkl
    have f0 := cells_at hcb 0 _ rfl
    have f1 := cells_at hcb 1 _ rfl
    have ff := cells_free hcb 1
    unfold ptr at f0
    simp only [List.getElem_toArray, List.getElem_cons_zero, List.getElem_cons_succ] at f0 f1
    have HLEN := Lib.hid hlen
    have H2 := Lib.hid h2
    have HPC := Lib.hid hpc
    have HOC := Lib.hid hoc
    have HMM := Lib.hid hM
    obtain ⟨R, hR⟩ : ∃ R, (S.r p).length = R := ⟨_, rfl⟩
    rw [hR] at f1 hl5 hkl
    have hkc : (k : Int) ≤ (c5 : Int) := by omega
    clear hlen h2 hpc hoc hM ho2 hp2 hcb e0 hR
    go_wp2_with fail
    refine HLEN.out.mono ?_
    rintro e w3 ⟨rfl, rfl⟩
    by_cases hMk : M = k
    · subst hMk
      have hre := H2.out.repart p HOC.out HPC.out (fun x hx => .inl hx)
      have HRE := Lib.hid hre
      have hz3 : Z = (E, T.less p M) := by rw [HZ2.out, HMM.out, if_pos rfl]
      have HZ3 := Lib.hid hz3
      clear hre hz3
      go_wp2_with fail
      go_ret
      rw [HZ3.out]
      have h9 := HRE.out
      rw [← HTR.out] at h9
      exact ⟨rfl, h9⟩
    · have hMn : ((M : Int) == (k : Int)) = false := by simp; omega
      have hz3 : Z = (E, T) := by rw [HZ2.out, HMM.out, if_neg hMk]
      have HZ3 := Lib.hid hz3
      clear hz3
      go_wp2_with fail
      go_ret
      rw [HZ3.out]
      exact ⟨rfl, c2, H2.out⟩

theorem lcut_loose (D : Dk.St) (f : Int) (L : Lg.St) (k : Int) : (Lg.cut D f L k).2.1.loose.length ≤ D.loose.length + 1 := by
  unfold Lg.cut
  split
  · simp
  · split
    · simp
    · split
      · exact Lg.cut_loose D f _
      · unfold Lg.cutDone
        have h1 := Lg.cut_loose D f (Lg.ends L.rs k.toNat)
        have h2 := Lg.sync_loose (Dk.cut D f (Lg.ends L.rs k.toNat)).2
        split
        · exact Nat.le_trans h2 h1
        · exact Nat.le_trans h2 h1
theorem cut1_other (n : Int) (S : OSt) : (OSt.cut1 n S false).2.L true = S.L true ∧ (OSt.cut1 n S false).2.r true = S.r true ∧ (OSt.cut1 n S false).2.D.loose.length ≤ S.D.loose.length + 1 := by
  unfold OSt.cut1
  cases beyond (S.r false) n with
  | none => exact ⟨rfl, rfl, by simp⟩
  | some k =>
    have h1 : (S.lcut false k).2.L true = S.L true := upd_ne (p := false) (q := true) S.L (Lg.cut S.D (fO false) (S.L false) k).2.2 (by decide)
    have h2 : (S.lcut false k).2.r = S.r := rfl
    have h3 : (S.lcut false k).2.D.loose.length ≤ S.D.loose.length + 1 := lcut_loose _ _ _ _
    simp only
    split
    · refine ⟨h1, ?_, h3⟩
      have h4 : ((S.lcut false k).2.less false k).r true = (S.lcut false k).2.r true := upd_ne (p := false) (q := true) (S.lcut false k).2.r (((S.lcut false k).2.r false).take k) (by decide)
      rw [h4, h2]
    · exact ⟨h1, by rw [h2], h3⟩

theorem ocut_nil (n : Int) (w : World) : Calls Try.prog 43 #[.pointer none, .int .i64 n] w fun e w' => e = .returned (.int .i64 1) ∧ Below w.heap.size w w' := by
  go_enter Try.func43, Try.ntmps43
  go_wp2_with fail
  go_ret
  exact ⟨rfl, bel_alloc _ _⟩
set_option maxHeartbeats 4000000 in
theorem ocut_any {fr : Fr} {w : World} {o d : Nat} {S : OSt} (h : OutLive fr w o d S) (hm : S.D.loose.length ≤ 999999999) (hn : ∀ p, (S.r p).length ≤ 1000000000) (hL : ∀ p, (S.L p).rs.length = (S.r p).length) (n : Int) :
    Calls Try.prog 43 #[ptr o 0, .int .i64 n] w fun e w' => e = .returned (.int .i64 (S.cut n).1) ∧ OutLive fr w' o d (S.cut n).2 := by
  by_cases hn1 : n < 1
  · have hz : S.cut n = (2, S) := by unfold OSt.cut; rw [if_pos hn1]
    have HH := Lib.hid (h.below (bel_alloc w (.cells #[.int .i64 n] 2)))
    rw [hz]
    unfold ptr
    clear h hz hm hn hL
    go_enter Try.func43, Try.ntmps43
    go_wp2_with fail
    go_ret
    exact ⟨rfl, HH.out⟩
  · have hz : S.cut n = S.each (OSt.cut1 n) := by unfold OSt.cut; rw [if_neg hn1]
    rw [hz]
    obtain ⟨W, hW⟩ : ∃ W, w.alloc (.cells #[.int .i64 n] 2) = W := ⟨_, rfl⟩
    have hbW : Below w.heap.size w W := by rw [← hW]; exact bel_alloc _ _
    have hbox : W.heap[w.heap.size]? = some (.cells #[.int .i64 n] 2) := by rw [← hW]; exact heap_alloc_new w _
    have hK := (h.keep.grow hbW).less (K' := fun k => k = w.heap.size) (fun k hk => .inr (by rw [hk]; exact ⟨Nat.le_refl _, (Array.getElem?_eq_some_iff.1 hbox).1⟩))
    obtain ⟨hs, hKl, b, l, col, hA⟩ := hK.into
    have hbx : ∀ (X : World) (c : Nat → Nat) (T : OSt), OutAt (fr.more hs _ hKl) X o d b l T c → X.heap[w.heap.size]? = some (.cells #[.int .i64 n] 2) := fun X c T hX => ((Since.more hX.old).2 _ rfl).trans hbox
    obtain ⟨q1, q2, q3⟩ := cut1_other n S
    have he := each_any hA 78 (enters_run Try.func78 (by kernel_rfl) rfl) (ptr w.heap.size 0) (OSt.cut1 n)
      (fun X c hX => cut1_any hX (by omega) false n w.heap.size (hbx X c S hX) (hn false) (hL false))
      (fun X c hX => cut1_any hX (by omega) true n w.heap.size (hbx X c _ hX) (by rw [q2]; exact hn true) (by rw [q1, q2]; exact hL true))
    have HE := Lib.hid he
    obtain ⟨E, T, hET⟩ : ∃ E T, S.each (OSt.cut1 n) = (E, T) := ⟨_, _, rfl⟩
    rw [hET] at HE ⊢
    have HW := Lib.hid hW
    unfold ptr at HE ⊢
    have hn2 : ¬ n < 1 := hn1
    clear h hz he hET hbx hA hbox hbW hK hW q1 q2 q3 hm hn hL
    go_enter Try.func43, Try.ntmps43
    go_wp2_with fail
    rw [HW.out]
    refine HE.out.mono ?_
    rintro e w1 ⟨rfl, c1, h1⟩
    have H1 := Lib.hid (show OutLive fr w1 o d T from (OutLive.back ⟨b, l, c1, h1⟩).1.live)
    clear h1
    go_wp2_with fail
    go_ret
    exact ⟨rfl, H1.out⟩

end Go.Proofs.Ytllecjhfbojgcaa
