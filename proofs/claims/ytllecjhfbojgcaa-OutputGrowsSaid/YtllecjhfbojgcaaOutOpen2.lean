/-
  The output's Open walked, on files that hold records.
-/
import Derived.Test.YtllecjhfbojgcaaOutOpen
import Derived.Maps.OwnOps
namespace Go.Proofs.Ytllecjhfbojgcaa
open Go.RowKit
set_option maxRecDepth 20000

/-- Records that Open takes. -/
structure OValid (rs : List ORec) : Prop where
  good : ∀ r ∈ rs, OGood r ∧ 1 ≤ r.n ∧ (r.kind = 2 → r.l = [])
  takes : ∀ (k : Nat) r, rs[k]? = some r → takesO (rs.take k) r = true
  len : rs.length ≤ 100000000

def idx (p : Bool) : Nat := if p then 1 else 0
/-- The records while they are read: part by part. -/
def partly (rs : Bool → List ORec) (k j : Nat) : Bool → List ORec := fun q => if idx q < k then rs q else if idx q = k then (rs q).take j else []
theorem partly_zero (rs : Bool → List ORec) : partly rs 0 0 = fun _ => [] := by
  funext q
  cases q <;> simp [partly, idx]
theorem partly_end (rs : Bool → List ORec) : partly rs 2 0 = rs := by
  funext q
  cases q <;> simp [partly, idx]
theorem partly_at (rs : Bool → List ORec) (p : Bool) (j : Nat) : partly rs (idx p) j p = (rs p).take j := by simp [partly]
theorem partly_next (rs : Bool → List ORec) (p : Bool) : partly rs (idx p) (rs p).length = partly rs (idx p + 1) 0 := by
  funext q
  cases p <;> cases q <;> simp [partly, idx]
theorem partly_step (rs : Bool → List ORec) (p : Bool) (j : Nat) (r : ORec) (hr : (rs p)[j]? = some r) : upd (partly rs (idx p) j) p (partly rs (idx p) j p ++ [r]) = partly rs (idx p) (j + 1) := by
  funext q
  by_cases hq : q = p
  · subst hq
    rw [upd_same, partly_at, partly_at, List.take_add_one, hr]
    rfl
  · rw [upd_ne _ _ hq]
    cases p <;> cases q <;> first | exact absurd rfl hq | simp [partly, idx]

def openSt (D : Dk.St) (rs : Bool → List ORec) (k j : Nat) : OSt := ⟨D, fun p => if p then ⟨(rs true).map entO, (rs true).length⟩ else ⟨(rs false).map entO, (rs false).length⟩, partly rs k j⟩

theorem takes_facts {rs : List ORec} {r : ORec} (h : takesO rs r = true) : (r.kind = 1 → lastO rs 1 ≤ r.n ∧ lastO rs 2 < r.n) ∧ (r.kind ≠ 1 → lastO rs 2 < r.n) := by
  unfold takesO at h
  constructor
  · intro hk
    rw [if_pos hk] at h
    simp only [Bool.and_eq_true, decide_eq_true_eq] at h
    exact h.1
  · intro hk
    rw [if_neg hk] at h
    simp only [Bool.and_eq_true, decide_eq_true_eq] at h
    exact h.1

set_option maxHeartbeats 16000000 in
set_option maxRecDepth 100000 in
theorem oopen_recs (fr : Fr) (w : World) (d : Nat) (D D1 D2 : Dk.St) (hL : LiveF fr w d D) (rs : Bool → List ORec) (hv : ∀ p, OValid (rs p))
    (h0 : Opens D 2 D1 ((rs false).map entO)) (h1 : Opens D1 3 D2 ((rs true).map entO)) :
    Calls Try.prog 34 #[ptr d 0] w fun e w' => ∃ o, e = .returned (.tuple #[ptr o 0, .int .i64 0]) ∧ OutLive fr w' o d (openSt D2 rs 2 0) := by
  obtain ⟨i0, hi0, hz0, hz1, hz2⟩ := info_parts infoORec
  obtain ⟨F, hd, hFn, hold⟩ := hL
  obtain ⟨W, hW⟩ : ∃ W, w.alloc (.cells #[.pointer none, .pointer none] 137) = W := ⟨_, rfl⟩
  have hbW : Below w.heap.size w W := by rw [← hW]; exact bel_alloc _ _
  have hWs : W.heap.size = w.heap.size + 1 := by rw [← hW]; simp
  have hn : W.heap[w.heap.size]? = some (.cells #[.pointer none, .pointer none] 137) := by rw [← hW]; exact heap_alloc_new w _
  have HDW := Lib.hid (hd.below hbW)
  have HFN := Lib.hid hFn
  have HDF := Lib.hid hd.lt
  have HOLD := Lib.hid (hold.below hbW)
  have hfr : ∀ k, w.heap.size ≤ k → ¬ fr.K k := fun k hk => hold.fresh hk
  have HW := Lib.hid hW
  have HN := Lib.hid hn
  have HO0 := Lib.hid h0
  have HO1 := Lib.hid h1
  have HV := Lib.hid hv
  obtain ⟨o, hnn⟩ : ∃ n, w.heap.size = n := ⟨_, rfl⟩
  rw [hnn] at HN hWs HDF hfr
  have HFR := Lib.hid hfr
  have HWS := Lib.hid hWs
  have HNN := Lib.hid hnn
  clear hd h0 h1 hW hbW hWs hn hFn hold hv hfr
  unfold ptr
  go_enter Try.func34, Try.ntmps34
  go_wp2_with fail
  refine wp_loop_rounds 3 ?_
  rw [rounds_succ]
  go_wp2_with fail
  first
    | rw [HW.out]
    | skip
  refine (HO0.out.call HDW.out).mono ?_
  rintro e w1 ⟨l0, rfl, hge0, ht0⟩
  have hFo : ¬ F o := fun h => by have := HDF.out o h; omega
  obtain ⟨F1, G0, o1, d1, g0, fg1, f1, gn1⟩ := ht0
  have hn1 : w1.heap[o]? = some (.cells #[.pointer none, .pointer none] 137) := (o1.block o (by have := HWS.out; omega) (fun h => h.elim hFo id)).trans HN.out
  have hlt1 : o < w1.heap.size := (Array.getElem?_eq_some_iff.1 hn1).1
  have hPo' := ((bel_alloc w1 (.cells #[.pointer (some ⟨l0, 0, none⟩), .slice none 0 0] 140)).block o hlt1).trans hn1
  have c0 := cells_at hPo' 0 _ rfl
  have fz0 := cells_free hPo' 0
  simp only [List.getElem_toArray, List.getElem_cons_zero] at c0
  have HO1' := Lib.hid o1
  have HD1 := Lib.hid d1
  have HG0 := Lib.hid g0
  have HFG1 := Lib.hid fg1
  have HF1 := Lib.hid f1
  have HGN1 := Lib.hid gn1
  unfold ptr
  have HN1 := Lib.hid hn1
  clear hn1 o1 d1 g0 fg1 f1 gn1 hPo'
  go_wp2_with fail
  obtain ⟨X, hX⟩ : ∃ X, (w1.setCell ⟨o, 0, none⟩ (.pointer (some ⟨w1.heap.size, 0, none⟩))).alloc (.cells #[.pointer (some ⟨l0, 0, none⟩), .slice none 0 0] 140) = X := ⟨_, rfl⟩
  have hXo : X.heap[o]? = some (.cells #[.pointer (some ⟨w1.heap.size, 0, none⟩), .pointer none] 137) := by
    rw [← hX, Below.heap_alloc _ _ o (by rw [World.size_setCell]; exact hlt1), cells_set HN1.out]; rfl
  have hoX : Only (fun k => k = o) w1 X := by rw [← hX]; exact (Only.setCell (fun k => k = o) w1 ⟨o, 0, none⟩ _ rfl).trans (Only.below (bel_alloc _ _))
  have hXb : X.heap[w1.heap.size]? = some (.cells #[.pointer (some ⟨l0, 0, none⟩), .slice none 0 0] 140) := by
    have := heap_alloc_new (w1.setCell ⟨o, 0, none⟩ (.pointer (some ⟨w1.heap.size, 0, none⟩))) (.cells #[.pointer (some ⟨l0, 0, none⟩), .slice none 0 0] 140)
    rw [World.size_setCell] at this
    rw [← hX]
    exact this
  have HX := Lib.hid hX
  have HXO := Lib.hid hXo
  have HXB := Lib.hid hXb
  have HOX := Lib.hid hoX
  have HDX := Lib.hid (HD1.out.only hoX (fun k hk e => by rw [show k = o from e] at hk; rcases HF1.out o hk with h | h; exact hFo h; have := HWS.out; omega))
  clear hX hXo hoX hXb c0 fz0
  rw [HX.out, rounds_succ]
  go_wp2_with fail
  refine (HO1.out.call HDX.out).mono ?_
  rintro e w2 ⟨l1, rfl, hge1, ht1⟩
  obtain ⟨F2, G1, o2, -, -, -, f2, -⟩ := id ht1
  have hF1o : ¬ F1 o := fun h => by rcases HF1.out o h with h | h; exact hFo h; have := HWS.out; omega
  have hnX := (Array.getElem?_eq_some_iff.1 HXO.out).1
  have hn2 : w2.heap[o]? = some (.cells #[.pointer (some ⟨w1.heap.size, 0, none⟩), .pointer none] 137) := (o2.block o hnX (fun h => h.elim hF1o id)).trans HXO.out
  have hlt2 : o < w2.heap.size := (Array.getElem?_eq_some_iff.1 hn2).1
  have hPo2' := ((bel_alloc w2 (.cells #[.pointer (some ⟨l1, 0, none⟩), .slice none 0 0] 140)).block o hlt2).trans hn2
  have c1 := cells_at hPo2' 1 _ rfl
  have fz1 := cells_free hPo2' 1
  simp only [List.getElem_toArray, List.getElem_cons_zero, List.getElem_cons_succ] at c1
  have HT1 := Lib.hid ht1
  unfold ptr
  have HN2 := Lib.hid hn2
  clear ht1 hn2 o2 f2 hPo2'
  go_wp2_with fail
  obtain ⟨Y, hY⟩ : ∃ Y, (w2.setCell ⟨o, 1, none⟩ (.pointer (some ⟨w2.heap.size, 0, none⟩))).alloc (.cells #[.pointer (some ⟨l1, 0, none⟩), .slice none 0 0] 140) = Y := ⟨_, rfl⟩
  have hYo : Y.heap[o]? = some (.cells #[.pointer (some ⟨w1.heap.size, 0, none⟩), .pointer (some ⟨w2.heap.size, 0, none⟩)] 137) := by
    rw [← hY, Below.heap_alloc _ _ o (by rw [World.size_setCell]; exact hlt2), cells_set HN2.out]; rfl
  have hoY : Only (fun k => k = o) w2 Y := by rw [← hY]; exact (Only.setCell (fun k => k = o) w2 ⟨o, 1, none⟩ _ rfl).trans (Only.below (bel_alloc _ _))
  have hYb : Y.heap[w2.heap.size]? = some (.cells #[.pointer (some ⟨l1, 0, none⟩), .slice none 0 0] 140) := by
    have := heap_alloc_new (w2.setCell ⟨o, 1, none⟩ (.pointer (some ⟨w2.heap.size, 0, none⟩))) (.cells #[.pointer (some ⟨l1, 0, none⟩), .slice none 0 0] 140)
    rw [World.size_setCell] at this
    rw [← hY]
    exact this
  have hlb := OutB.ofOpen (fr := fr) (o := o) (d := d) HOLD.out HFN.out hFo (HFR.out o (Nat.le_refl _)) (by have := HWS.out; omega) HO1'.out HG0.out HFG1.out HF1.out HGN1.out HG0.out.lt HD1.out.lt HOX.out (Nat.le_refl _) (Array.getElem?_eq_some_iff.1 HXB.out).1 HXB.out HT1.out hoY (Nat.le_refl _) hYb hYo
  have hst : (OSt.mk D2 (fun p => if p = true then ⟨(rs true).map entO, ((rs true).map entO).length⟩ else ⟨(rs false).map entO, ((rs false).map entO).length⟩) (fun _ => [])) = openSt D2 rs 0 0 := by
    unfold openSt
    rw [partly_zero, List.length_map, List.length_map]
  rw [hst] at hlb
  obtain ⟨b, hb⟩ : ∃ b : Bool → Nat, (fun p => if p = true then w2.heap.size else w1.heap.size) = b := ⟨_, rfl⟩
  obtain ⟨l, hl⟩ : ∃ l : Bool → Nat, (fun p => if p = true then l1 else l0) = l := ⟨_, rfl⟩
  have eb0 : w1.heap.size = b false := by rw [← hb]; rfl
  have eb1 : w2.heap.size = b true := by rw [← hb]; rfl
  rw [hb, hl] at hlb
  rw [eb0, eb1] at hYo
  have HLB := Lib.hid hlb
  have HY := Lib.hid hY
  have d0 := cells_at hYo 0 _ rfl
  have d1 := cells_at hYo 1 _ rfl
  simp only [List.getElem_toArray, List.getElem_cons_zero, List.getElem_cons_succ] at d0 d1
  clear hY hYo hoY hYb c1 fz1 hlb hst hb hl eb0 eb1 HT1 HDX HOX HXO HX HD1 HG0 HFG1 HF1 HGN1 HO1' hF1o hnX hlt1 hFo hlt2 HXB HN1 HN2
  rw [HY.out, rounds_succ]
  go_wp2_with fail
  have hidx : ∀ (p : Bool) (W : World), (Instr.index 135 (.agg #[.pointer (some ⟨b false, 0, none⟩), .pointer (some ⟨b true, 0, none⟩)]) (.int .i64 (idx p : Int))).run Try.prog W = .ok (.pointer (some ⟨b p, 0, none⟩)) W := fun p W => by cases p <;> kernel_rfl
  have HIX := Lib.hid hidx
  clear hidx
  go_loopw [44] (fun i wr => ∃ k : Nat, k ≤ 2 ∧ i = .int .i64 (k : Int) ∧ Hid (OutB fr wr o d b l (openSt D2 rs k 0))) (fun i _ => 2 - (intOf i).toNat)
  case atStart => exact ⟨0, by omega, rfl, HLB⟩
  case round =>
    obtain ⟨k, hk, rfl, HS⟩ := hrel
    by_cases hk2 : k < 2
    · obtain ⟨p, hp⟩ : ∃ p, k = idx p := by
        rcases (show k = 0 ∨ k = 1 by omega) with rfl | rfl
        · exact ⟨false, rfl⟩
        · exact ⟨true, rfl⟩
      have hkk : (k : Int) < 2 := by omega
      have hidx := fun W => HIX.out p W
      rw [← hp] at hidx
      have HPK := Lib.hid hp
      obtain ⟨m, hm⟩ : ∃ m, (rs p).length = m := ⟨_, rfl⟩
      have HM := Lib.hid hm
      obtain ⟨c9, h9⟩ := HS.out
      have hlen := oat_len h9 p
      have hLp : ((openSt D2 rs k 0).L p).rs.length = m := by rw [← hm]; cases p <;> exact List.length_map ..
      rw [hLp] at hlen
      obtain ⟨lv9, qs9, hc9, -⟩ := (h9.part p).ex
      have e0 := cells_at hc9 0 _ rfl
      unfold ptr at hlen e0
      simp only [List.getElem_toArray, List.getElem_cons_zero] at e0
      have HLEN := Lib.hid hlen
      have hm9 := (HV.out p).len
      rw [hm] at hm9
      clear hp hm h9 hLp hc9 hlen
      go_wp2_with fail
      refine HLEN.out.mono ?_
      rintro e w3 ⟨rfl, rfl⟩
      clear hidx
      go_wp2_with fail
      go_loopw [52] (fun i wr => ∃ j : Nat, j ≤ m ∧ i = .int .i64 (j : Int) ∧ Hid (OutB fr wr o d b l (openSt D2 rs k j))) (fun i _ => m - (intOf i).toNat)
      case atStart => exact ⟨0, Nat.zero_le _, rfl, HS⟩
      case round =>
        clear e0 HS HLEN
        obtain ⟨j, hj, rfl, HS⟩ := hrel
        by_cases hlt : j < m
        · obtain ⟨r, hr⟩ : ∃ r, (rs p)[j]? = some r := ⟨(rs p)[j]'(by rw [HM.out]; omega), by simp⟩
          have hjm : (j : Int) < (m : Int) := by omega
          obtain ⟨hgd, hn1, hk2l⟩ := (HV.out p).good r (List.mem_of_getElem? hr)
          have htk := (HV.out p).takes j r hr
          obtain ⟨tf1, tf2⟩ := takes_facts htk
          obtain ⟨c9, h9⟩ := HS.out
          have hrp : (openSt D2 rs k j).r p = (rs p).take j := by show partly rs k j p = _; rw [HPK.out]; exact partly_at rs p j
          obtain ⟨lv9, qs9, hc9, -⟩ := (h9.part p).ex
          have e0 := cells_at hc9 0 _ rfl
          have hat := logat_any wr (l p) d (fO p) _ _ (h9.log p) (j : Int)
          have hLj : Lg.at' ((openSt D2 rs k j).L p) (j : Int) = ((r.kind.toNat : Int), (entO r).text, 0) := by
            have h5 : ((openSt D2 rs k j).L p).rs[j]? = some (entO r) := by
              have h6 : ((openSt D2 rs k j).L p).rs = (rs p).map entO := by cases p <;> rfl
              rw [h6, List.getElem?_map, hr]
              rfl
            unfold Lg.at'
            rw [if_neg (by omega), Int.toNat_natCast, h5]
            rfl
          rw [hLj] at hat
          obtain ⟨kz, hkz⟩ : ∃ kz, (r.kind.toNat : Int) = kz := ⟨_, rfl⟩
          simp only [hkz] at hat
          unfold ptr at e0 hat
          simp only [List.getElem_toArray, List.getElem_cons_zero] at e0
          have hpart := h9.part p
          rw [hrp] at hpart
          have HAT := Lib.hid hat
          have H9 := Lib.hid h9
          have HRR := Lib.hid hr
          have HRP := Lib.hid hrp
          have HRD := Lib.hid (fun X => oread_any X r hgd hn1 hk2l kz hkz)
          have HTK := Lib.hid htk
          have hl9 := hgd.len
          have HTA := Lib.hid (fun (X : World) (hX : Below wr.heap.size wr X) va vc => takes_any (hpart.below hX) r va vc (by omega) kz hkz tf1 tf2)
          have HKZ := Lib.hid hkz
          have hold9 := h9.old
          have HOLD9 := Lib.hid hold9
          have hlt9 := h9.lt
          have HLT9 := Lib.hid hlt9
          clear hr hgd hn1 hk2l htk tf1 tf2 h9 hrp hc9 hLj hat hkz hpart hold9 hlt9
          go_wp2_with fail
          refine HAT.out.mono ?_
          rintro e w5 ⟨rfl, hb5⟩
          have HB5 := Lib.hid hb5
          clear hb5 e0
          go_wp2_with fail
          refine (HRD.out w5).mono ?_
          rintro e w6 ⟨v6, rfl, hown6, hb6⟩
          have hov := own_out hown6
          have hrd6 := Reads.own hown6
          obtain ⟨a3, c3, rfl⟩ := hrd6.shape
          obtain ⟨W, hW⟩ : ∃ W, w6.alloc (.cells #[.int .u8 kz, .int .i64 r.n, .slice a3 r.l.length c3] 142) = W := ⟨_, rfl⟩
          have hbW : Below w6.heap.size w6 W := by rw [← hW]; exact bel_alloc _ _
          have hbox : W.heap[w6.heap.size]? = some (.cells #[.int .u8 kz, .int .i64 r.n, .slice a3 r.l.length c3] 142) := by rw [← hW]; exact heap_alloc_new w6 _
          have hbrW := bel_trans (bel_trans HB5.out hb6) hbW
          have htak := HTA.out W hbrW a3 c3
          rw [HTK.out] at htak
          have HTAK := Lib.hid htak
          have HOV := Lib.hid hov
          have HRD6 := Lib.hid hrd6
          have HW := Lib.hid hW
          have HBW := Lib.hid hbW
          have HBRW := Lib.hid hbrW
          have HBOX := Lib.hid hbox
          have HB6 := Lib.hid hb6
          obtain ⟨L, hL⟩ : ∃ L, r.l.length = L := ⟨_, rfl⟩
          have HLL := Lib.hid hL
          rw [hL] at HBOX HW HTAK HOV HRD6 hbox hW ⊢
          have f0 := cells_at hbox 0 _ rfl
          have f1 := cells_at hbox 1 _ rfl
          have f2 := cells_at hbox 2 _ rfl
          simp only [List.getElem_toArray, List.getElem_cons_zero, List.getElem_cons_succ] at f0 f1 f2
          unfold ptr at HTAK
          clear hown6 hb6 hov hrd6 hbW hbox hbrW htak hL hW
          go_upto_region 18 with fail
          rw [HW.out]
          go_wp2_with fail
          refine HTAK.out.mono ?_
          rintro e w8 ⟨rfl, hb8⟩
          have hbr8 := bel_trans HBRW.out hb8
          have hg8 := (hb8.block w6.heap.size (Array.getElem?_eq_some_iff.1 HBOX.out).1).trans HBOX.out
          have h58 : w5.heap.size ≤ w8.heap.size := Nat.le_trans HB6.out.size (Nat.le_trans HBW.out.size hb8.size)
          have h68 : w6.heap.size ≤ w8.heap.size := Nat.le_trans HBW.out.size hb8.size
          have h95 : wr.heap.size ≤ w5.heap.size := HB5.out.size
          have h10 := H9.out.below hbr8
          have hcol0 : ∀ x, wr.heap.size ≤ x → c9 x = 0 := fun x hx => by
            by_cases e : c9 x = 0
            · exact e
            · have := HLT9.out x e; omega
          obtain ⟨c10, hA, hcv, hcn⟩ := h10.adopt p (fun x => (Value.slice a3 L c3).ownBlock = some x) (fun x hx => by
            have := HOV.out x hx
            exact ⟨hcol0 x (by omega), HOLD9.out.fresh (by omega), by omega⟩)
          have hvo8 : OwnsOut w8 (.slice a3 L c3) (fun x => c10 x = cP p) := fun x hx => by
            obtain ⟨q1, q2, cur, q3⟩ := HOV.out x hx
            exact ⟨hcv x hx, cur, ((hb8.block x (Nat.lt_of_lt_of_le q2 HBW.out.size)).trans (HBW.out.block x q2)).trans q3⟩
          have hv8 : Reads w8 (.slice a3 L c3) r.l.length (outCells r.l) := by
            rw [HLL.out]
            exact (HRD6.out.below HBW.out).below hb8
          have hc6 : c10 w6.heap.size = 0 := by
            rw [hcn _ (fun e => by have := HOV.out _ e; omega)]
            exact hcol0 _ (by have := HB6.out.size; omega)
          obtain ⟨lv6, qs6, hc, hr, hqs, hlo, hqr⟩ := (hA.part p).ex
          rw [HRP.out] at hr hqs
          have htl : ((rs p).take j).length = j := by rw [List.length_take, HM.out]; omega
          rw [htl] at hr
          obtain ⟨la, lc, rfl⟩ := hr.reads.shape
          have c1 := cells_at hc 1 _ rfl
          have d0' := cells_at hg8 0 _ rfl
          have d1' := cells_at hg8 1 _ rfl
          have d2' := cells_at hg8 2 _ rfl
          simp only [List.getElem_toArray, List.getElem_cons_zero, List.getElem_cons_succ] at c1 d0' d1' d2'
          have hlne : (Value.slice la j lc).ownBlock ≠ some (b p) := fun e => by
            obtain ⟨cur, hcur⟩ := hr.type (b p) e
            exact far hcur hc (by decide) rfl
          have hbl := (Array.getElem?_eq_some_iff.1 hc).1
          have hgl := (Array.getElem?_eq_some_iff.1 hg8).1
          have HA := Lib.hid hA
          have HV8 := Lib.hid hv8
          have HVO8 := Lib.hid hvo8
          have HC6 := Lib.hid hc6
          have HC := Lib.hid hc
          have HR6 := Lib.hid hr
          have HQS := Lib.hid hqs
          have HLO := Lib.hid hlo
          have HQR := Lib.hid hqr
          have HLNE := Lib.hid hlne
          have HG8 := Lib.hid hg8
          have HTL := Lib.hid htl
          obtain ⟨g, hgg⟩ : ∃ g, w6.heap.size = g := ⟨_, rfl⟩
          rw [hgg] at HC6 HG8 d0' d1' d2' hgl
          have HD := Lib.hid (fun (W' : World) (h1 : W'.heap[b p]? = w8.heap[b p]?) (h2 : W'.heap[g]? = w8.heap[g]?) => And.intro ((World.cell?_of_block (a := ⟨b p, 1, none⟩) h1).trans c1) (And.intro ((World.cell?_of_block (a := ⟨g, 0, none⟩) h2).trans d0') (And.intro ((World.cell?_of_block (a := ⟨g, 1, none⟩) h2).trans d1') ((World.cell?_of_block (a := ⟨g, 2, none⟩) h2).trans d2'))))
          have HGG := Lib.hid hgg
          clear hbr8 hg8 h58 h68 h95 h10 hcol0 hcv hcn hA hvo8 hv8 hc6 hc hr hqs hlo hqr htl c1 d0' d1' d2' hlne f0 f1 f2 hgg hb8
          go_upto_region 20 with fail
          rw [HGG.out]
          refine wp_region_free [0, 1, 2, 3, 4, 5] 8 (fun W' => W'.heap[b p]? = w8.heap[b p]? ∧ W'.heap[g]? = w8.heap[g]?) (by kernel_rfl) (by kernel_rfl) ?_
          change wpYields _ _ _ _ [_, _, _, _, _, _] _
          iterate 6 (refine yields_step (fun K hK => ?_); apply Exists.intro; apply And.intro; (apply yields_at rfl; rintro W' ⟨hb1, hb2⟩; obtain ⟨z0, z1, z2, z3⟩ := HD.out W' hb1 hb2; go_simp; first | done | rfl); go_simp; refine hK _ ?_; clear hK K)
          refine yields_nil ?_
          refine anyP_one (k := 6) (by kernel_rfl) (by decide) rfl rfl ⟨rfl, rfl⟩ ?_
          refine wpP_step rfl (fun K hK => ?_)
          go_simp
          refine hK _ _ ?_
          clear hK K
          have hnews := heap_alloc_new w8 (.cells #[.int .u8 kz, .int .i64 r.n, .slice a3 L c3] 142)
          have hbV := bel_trans (bel_alloc w8 (.cells #[.int .u8 kz, .int .i64 r.n, .slice a3 L c3] 142)) (bel_drew _)
          have hone : ∀ u ∈ [Value.int .u8 kz, .int .i64 r.n, .slice a3 L c3], u.oneCell' = true := by simp [Value.oneCell']
          refine anyP_one (k := 7) (by kernel_rfl) (by decide) rfl rfl ⟨hbV.block (b p) hbl, hbV.block g hgl⟩ ?_
          refine wpP_step rfl (fun K hK => ?_)
          refine step_append_row rfl _ _ 138 rfl 142 i0 _ 3 40 Try.underlying138 hi0 hz0 hz1 hz2 rfl (by omega) (.slice la j lc) j (oCells qs6) (by rfl) (HR6.out.kept (fun k hk => hbV.block k (HR6.out.lt k hk))) ⟨w8.heap.size, 0, none⟩ 1 1 [.int .u8 kz, .int .i64 r.n, .slice a3 L c3] rfl rfl (World.news_of_block (cs := #[.int .u8 kz, .int .i64 r.n, .slice a3 L c3]) (t := 142) (fr := (0, 0)) hnews) hone (by omega) (by unfold maxLen; omega) (by omega) ?_
          intro gg cap w9 hown hgrow hat hltg
          refine hK _ _ ?_
          clear hK K
          have hb9 : w9.heap[b p]? = w8.heap[b p]? := (hgrow.block (b p) (by have := hbV.size; omega) (Ne.symm HLNE.out)).trans (hbV.block (b p) hbl)
          have hgne : some g ≠ (Value.slice la j lc).ownBlock := fun e => by
            have h1 := HLO.out g e.symm
            rw [HC6.out] at h1
            exact (cP_ne p).1 h1.symm
          have hg9 : w9.heap[g]? = w8.heap[g]? := (hgrow.block g (by have := hbV.size; omega) hgne).trans (hbV.block g hgl)
          have hpp : PartAt (w9.setCell ⟨b p, 1, none⟩ (.slice (some ⟨gg, 0, none⟩) (j + 1) cap)) (b p) (l p) ((rs p).take j ++ [r]) (fun k => c10 k = cP p ∨ k = gg) ∧ Only (fun k => c10 k = cP p) w8 (w9.setCell ⟨b p, 1, none⟩ (.slice (some ⟨gg, 0, none⟩) (j + 1) cap)) := by
            have hj9 := HTL.out
            have := part_push (P := fun k => c10 k = cP p) (w := w8) (w3 := w9) (g := gg) (cap := cap) (qs := qs6) (v := .slice a3 L c3) (lv := .slice la j lc) (r := r) (rs := (rs p).take j) (HA.out.part p).mem (HA.out.part p).lt HC.out (by rw [hj9]; exact HR6.out) HQS.out HLO.out HQR.out HV8.out HVO8.out hbV hgrow (by rw [hj9, show (r.kind.toNat : Int) = kz from HKZ.out]; exact hown) hat hltg
            rw [hj9] at this
            exact this
          have hre := HA.out.repart p hpp.2 hpp.1 (fun k hk => by
            rcases hk with hk | rfl
            · exact .inl hk
            · rcases hat with h1 | h1
              · exact .inl (HLO.out _ h1)
              · exact .inr (Nat.le_trans hbV.size h1))
          have hst : ({ openSt D2 rs k j with r := upd (openSt D2 rs k j).r p ((rs p).take j ++ [r]) } : OSt) = openSt D2 rs k (j + 1) := by
            have h5 := partly_step rs p j r HRR.out
            have h6 := HPK.out
            unfold openSt
            simp only
            rw [h6, ← h5, partly_at]
          rw [hst] at hre
          have HRE := Lib.hid hre
          refine anyP_leaf ⟨hb9, hg9⟩ (by kernel_rfl) ?_
          simp only [List.drop_succ_cons, List.drop_zero]
          have y := hb9.trans HC.out
          have yf := cells_free y 1
          have y1 := cells_at y 1 _ rfl
          simp only [List.getElem_toArray, List.getElem_cons_zero, List.getElem_cons_succ] at y1
          clear hnews hbV hone hown hgrow hat hltg hb9 hgne hg9 hpp hre hst y
          go_wp2_with fail
          go_roundw
          case rel => exact ⟨j + 1, by omega, by go_num, HRE.out⟩
          case measure => simp [intOf]; omega
        · have hje : j = m := by omega
          subst hje
          have hjj : ¬ (j : Int) < (j : Int) := by omega
          clear hlt
          have hst : openSt D2 rs k j = openSt D2 rs (k + 1) 0 := by
            unfold openSt
            rw [HPK.out, ← HM.out, partly_next]
          rw [hst] at HS
          clear hst
          go_wp2_with fail
          go_roundw
          case rel => exact ⟨k + 1, by omega, by go_num, HS⟩
          case measure => simp [intOf]; omega
    · obtain rfl : k = 2 := by omega
      have hnk : ¬ ((2 : Nat) : Int) < 2 := by omega
      go_wp2_with fail
      go_ret2
      obtain ⟨c9, h9⟩ := HS.out
      exact ⟨o, rfl, b, l, c9, h9⟩

end Go.Proofs.Ytllecjhfbojgcaa
