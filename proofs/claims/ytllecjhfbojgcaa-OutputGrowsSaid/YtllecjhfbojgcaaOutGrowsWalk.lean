/-
  The walk through OutputGrows. Written by wip/mkgrows.py from wip/grows.part.
-/
import Derived.Test.YtllecjhfbojgcaaOutGrowsA
namespace Go.Proofs.Ytllecjhfbojgcaa
open Go.RowKit
set_option maxRecDepth 20000

theorem flat_len (rs : List ORec) : (rs.flatMap (·.l)).length * 20 ≤ wtO rs := by
  induction rs with
  | nil => exact Nat.le_refl _
  | cons r rs ih =>
    have e2 : wtO (r :: rs) = (25 + 20 * r.l.length) + wtO rs := by simp [wtO]
    rw [e2, List.flatMap_cons, List.length_append, Nat.add_mul]
    omega
theorem GInv.big {S : OSt} {sure : Bool → List OutX} {b : Nat} (h : GInv S sure b) (hb : b ≤ 1000000) (p : Bool) : ((S.r p).flatMap (·.l)).length ≤ 1000000000 := by
  have h0 := flat_len (S.r false)
  have h1 := flat_len (S.r true)
  have hw : wtO (S.r false) + wtO (S.r true) ≤ b := h.wt
  cases p <;> omega

theorem GSt.copy2 {w X : World} {o d g7 g9 g10 : Nat} {op : Gop} {S : OSt} {s x : Bool → Value} {sure was : Bool → List OutX} (h : GSt w X o d g7 g9 g10 op S s x sure was) {u v : Value} (hu : s false = u) (hv : s true = v) :
    ∃ x' was', x' = s ∧ was' = sure ∧ GSt w ((X.setCell ⟨g10, 0, none⟩ u).setCell ⟨g10, 1, none⟩ v) o d g7 g9 g10 op S s x' sure was' := by
  refine ⟨s, sure, rfl, rfl, h.copy ((Only.setCell (fun k => k = g10) X ⟨g10, 0, none⟩ u rfl).trans (Only.setCell (fun k => k = g10) _ ⟨g10, 1, none⟩ v rfl)) ?_⟩
  have h2 := arr_set (arr_set h.c10 false u) true v
  rw [upd_same, upd_ne _ _ (by decide), upd_same] at h2
  rw [hu, hv]
  exact h2

set_option maxHeartbeats 64000000 in
set_option maxRecDepth 100000 in
theorem outputGrows_walk (v : Value) (l : List Gop) (w : World) (hla : l.length ≤ 140737488355328) (hr : Reads w v l.length (gopCells l)) (hs : ∀ r ∈ l, GopIn w r) :
    Calls Try.prog 8 #[v] w fun e w' => e = .returned (.bool true) ∧ Below w.heap.size w w' := by
  have HH := Lib.hid (gheavy_any v l w hla hr hs)
  have HR := Lib.hid hr
  have HL := Lib.hid hs
  obtain ⟨va, vc, rfl⟩ := hr.shape
  obtain ⟨m, hm⟩ : ∃ m, l.length = m := ⟨_, rfl⟩
  have HM := Lib.hid hm
  rw [hm] at hla HH ⊢
  clear hr hs hm
  go_enter Try.func8, Try.ntmps8
  go_wp2_with fail
  refine HH.out.mono ?_
  rintro e w1 (⟨rfl, h200, hsum, hb⟩ | ⟨rfl, hb⟩)
  rotate_left
  · go_wp2_with fail
    refine (oworks_any _).mono ?_
    rintro e w2 ⟨rfl, hb2⟩
    have HB := Lib.hid (bel_trans hb hb2)
    clear hb hb2
    go_wp2_with fail
    go_ret
    exact ⟨rfl, HB.out⟩
  · have HB1 := Lib.hid hb
    have HSM := Lib.hid hsum
    clear hb hsum
    go_wp2_with fail
    refine (live_new 4194304 w1 (by decide)).mono ?_
    rintro e w2 ⟨rfl, h⟩
    have H := Lib.hid (show Live w1 w2 w1.heap.size (Dk.fresh 4194304) from h)
    clear h
    have hrd : ∀ X, Since (Fr.all w1) X → Since (Fr.all w) X := fun X hX => Since.of (bel_trans HB1.out hX.bel)
    have HRD := Lib.hid hrd
    clear hrd
    unfold ptr
    go_wp2_with fail
    refine (oopen_fresh (Fr.all w1) w2 w1.heap.size 4194304 H.out.frame).mono ?_
    rintro e w3 ⟨o, rfl, h⟩
    have hb := bel_alloc w3 (.cells #[.slice none 0 0, .slice none 0 0] 74)
    have hgl : GLoop w1 (w3.alloc (.cells #[.slice none 0 0, .slice none 0 0] 74)) o w1.heap.size w3.heap.size out0 (fun _ => .slice none 0 0) (fun _ => []) := by
      have hsz := h.old.size
      exact ⟨(h.keep.grow hb).less (fun k hk => by
        rcases hk with hk | ⟨p, hk⟩
        · exact .inr ⟨by omega, by simp; omega⟩
        · simp [Value.ownBlock] at hk), heap_alloc_new w3 _, fun p => Reads.nil _, fun p k hk => by simp [Value.ownBlock] at hk, hsz⟩
    have HGL := Lib.hid hgl
    clear h hb hgl
    obtain ⟨g7, hg7⟩ : ∃ z, w3.heap.size = z := ⟨_, rfl⟩
    rw [hg7] at HGL
    have HG7 := Lib.hid hg7
    clear hg7
    unfold ptr
    go_wp2_with fail
    try rw [HG7.out]
    go_loopw [5, 31] (fun ov ix wr => ∃ (i o : Nat) (S : OSt) (s : Bool → Value) (sure : Bool → List OutX), ov = .pointer (some ⟨o, 0, none⟩) ∧ i ≤ m ∧ ix = .int .i64 (i : Int) ∧ Hid (GLoop w1 wr o w1.heap.size g7 S s sure) ∧ Hid (GInv S sure (75 * i + 21 * sumG (l.take i)))) (fun _ ix _ => m - (intOf ix).toNat)
    case atStart => exact ⟨0, o, out0, _, _, rfl, Nat.zero_le _, rfl, HGL, Lib.hid GInv.start⟩
    case round =>
      obtain ⟨i, o', S0, s, sure, rfl, hi, rfl, HGL2, HGI0⟩ := hrel
      by_cases hlt : i < m
      · obtain ⟨op, hx⟩ : ∃ x, l[i]? = some x := ⟨l[i]'(by rw [HM.out]; omega), by simp⟩
        have hik : (i : Int) < (m : Int) := by omega
        have hrr := HR.out
        rw [HM.out] at hrr
        obtain ⟨b, ob, hva, hblt, r0, r1, r2, r3, r4⟩ := readsG HR.out i op hx
        cases hva
        have hbl := (HRD.out _ HGL2.out.out.old).bel
        have r0 := (World.cell?_of_block (hbl.block b hblt)).trans r0
        have r1 := (World.cell?_of_block (hbl.block b hblt)).trans r1
        have r2 := (World.cell?_of_block (hbl.block b hblt)).trans r2
        have r3 := (World.cell?_of_block (hbl.block b hblt)).trans r3
        have r4 := (World.cell?_of_block (hbl.block b hblt)).trans r4
        have hop := HL.out op (List.mem_of_getElem? hx)
        have HOP := Lib.hid hop
        have htk : sumG (l.take (i + 1)) = sumG (l.take i) + min op.l.length 5000 := by
          rw [List.take_add_one, hx]
          exact sumG_snoc _ _
        have hle : sumG (l.take (i + 1)) ≤ sumG l := by
          have e := List.take_append_drop (i + 1) l
          conv => rhs; rw [← e]
          unfold sumG
          rw [List.map_append, List.sum_append]
          omega
        have hsm := HSM.out
        obtain ⟨B, hB⟩ : ∃ B, sumG (l.take i) = B := ⟨_, rfl⟩
        have hzl : op.l.length ≤ 5000 := by omega
        rw [Nat.min_eq_left hzl, hB] at htk
        rw [htk] at hle
        have hBl : B + op.l.length < 5000 := by omega
        have HTK := Lib.hid htk
        rw [hB] at HGI0
        obtain ⟨xa, xc, hv⟩ := hop.rd.shape
        obtain ⟨z, hz⟩ : ∃ z, op.l.length = z := ⟨_, rfl⟩
        rw [hz] at hv hzl hBl HTK
        have HZ := Lib.hid hz
        have HV := Lib.hid hv
        rw [hv] at r4
        have hen := HGL2.out.enter op
        rw [hv] at hen
        have HEN := Lib.hid hen
        clear hrr hx htk hle hsm hB hv hz hen hop hbl
        obtain ⟨g9, hg9⟩ : ∃ z, wr.heap.size = z := ⟨_, rfl⟩
        obtain ⟨g10, hg10⟩ : ∃ z, g9 + 1 = z := ⟨_, rfl⟩
        rw [hg9, hg10] at HEN
        have HG9 := Lib.hid hg9
        have HG10 := Lib.hid hg10
        clear hg9 hg10
        go_wp2_with fail
        rw [HG9.out, HG10.out]
        go_loopw [35] (fun jx X => ∃ (j : Nat) (x : Bool → Value) (was : Bool → List OutX), jx = .int .i64 (j : Int) ∧ j ≤ 2 ∧ Hid (GSt w1 X o' w1.heap.size g7 g9 g10 op S0 s x sure was) ∧ Hid (∀ p, idx p < j → was p = nowO S0 p)) (fun jx _ => 2 - (intOf jx).toNat)
        case atStart => exact ⟨0, _, _, rfl, by omega, HEN, Lib.hid (fun p hp => absurd hp (Nat.not_lt_zero _))⟩
        case round =>
          obtain ⟨j, x', was', rfl, hj, HT, HWS⟩ := hrel
          have hjj : j = 0 ∨ j = 1 ∨ j = 2 := by omega
          rcases hjj with rfl | rfl | rfl
          · have hc := counts_any HT.out.out.live false (HGI0.out.big (by omega) false)
            have HC := Lib.hid hc
            clear hc
            go_wp2_with fail
            refine HC.out.mono ?_
            rintro e w8 ⟨v8, rfl, hown8, hb8⟩
            obtain ⟨a8, c8, rfl⟩ := (Reads.own hown8).shape
            have HB8 := Lib.hid hb8
            have HOWN8 := Lib.hid hown8
            have hz8 : w8.cell? ⟨g10, 0, none⟩ = some _ := (HT.out.below hb8).cellW false
            have hf8 : w8.frozen? ⟨g10, 0, none⟩ = false := cells_free (HT.out.below hb8).c10 _
            clear hown8 hb8
            go_wp2_with fail
            go_roundw
            case rel => exact ⟨1, _, _, by go_num, by omega, Lib.hid (HT.out.setWas HB8.out false _ _ HOWN8.out), Lib.hid (fun p hp => by cases p <;> first | (rw [upd_same]; rfl) | (exact absurd hp (by decide)))⟩
            case measure => simp [intOf]
          · have hc := counts_any HT.out.out.live true (HGI0.out.big (by omega) true)
            have HC := Lib.hid hc
            clear hc
            go_wp2_with fail
            refine HC.out.mono ?_
            rintro e w8 ⟨v8, rfl, hown8, hb8⟩
            obtain ⟨a8, c8, rfl⟩ := (Reads.own hown8).shape
            have HB8 := Lib.hid hb8
            have HOWN8 := Lib.hid hown8
            have hz8 : w8.cell? ⟨g10, 1, none⟩ = some _ := (HT.out.below hb8).cellW true
            have hf8 : w8.frozen? ⟨g10, 1, none⟩ = false := cells_free (HT.out.below hb8).c10 _
            clear hown8 hb8
            go_wp2_with fail
            go_roundw
            case rel => exact ⟨2, _, _, by go_num, by omega, Lib.hid (HT.out.setWas HB8.out true _ _ HOWN8.out), Lib.hid (fun p hp => by cases p <;> first | (rw [upd_same]; rfl) | (rw [upd_ne _ _ (by decide)]; exact HWS.out _ (by decide)))⟩
            case measure => simp [intOf]
          · have hws : was' = nowO S0 := funext fun p => HWS.out p (by cases p <;> decide)
            have HWE := Lib.hid hws
            clear hws HWS
            obtain ⟨X, hX⟩ : ∃ X, X = wr := ⟨_, rfl⟩
            rw [← hX] at HT ⊢
            clear hX
            have hrx : ∀ Y, Since (Fr.all w1) Y → Reads Y (.slice xa z xc) z (outCells op.l) := fun Y hY => by
              have hrd0 := HOP.out.rd
              rw [HV.out, HZ.out] at hrd0
              have hYw := HRD.out Y hY
              rcases hrd0 with ⟨a', c', h1, h2, h3⟩ | ⟨b', o', c', h1, h2, h3, h4, h5⟩
              · exact .inl ⟨a', c', h1, h2, h3⟩
              · exact .inr ⟨b', o', c', h1, h2, h3, Nat.lt_of_lt_of_le h4 hYw.size, fun j y hj => (World.cell?_of_block (hYw.block b' h4)).trans (h5 j y hj)⟩
            have HRX := Lib.hid hrx
            have HXR := Lib.hid (show Reads w (.slice xa z xc) z (outCells op.l) by have hrd0 := HOP.out.rd; rwa [HV.out, HZ.out] at hrd0)
            clear hrx
            have c2 : X.cell? ⟨g9, 2, none⟩ = some (.int .i64 op.m) := HT.out.cellO.2.2.1
            have c3 : X.cell? ⟨g9, 3, none⟩ = some (.int .i64 op.t) := HT.out.cellO.2.2.2.1
            have c4 : X.cell? ⟨g9, 4, none⟩ = some (.slice xa z xc) := HT.out.cellO.2.2.2.2.trans (by rw [HV.out])
            by_cases hk0 : op.kind = 0
            · have HKD := Lib.hid hk0
              have c0 : X.cell? ⟨g9, 0, none⟩ = some (.int .i64 0) := HT.out.cellO.1.trans (by rw [hk0])
              by_cases hn0 : op.n = 0
              · have hp : op.n = 0 := hn0
                have c1 : X.cell? ⟨g9, 1, none⟩ = some (.int .i64 0) := HT.out.cellO.2.1.trans (by rw [hp])
                obtain ⟨f, hfK, hl, hback⟩ := HT.out.call
                have HBK := Lib.hid hback
                have htl := otell_e hl (HGI0.out.fit (by omega)) (by omega) false op.t (bounds_i64 HOP.out.t) (.slice xa z xc) op.l (by rw [HZ.out]; exact HRX.out _ HT.out.out.old) (fun g hg h0 => hfK g (by
                  rcases HXR.out with ⟨a', c', h1, h2, h3⟩ | ⟨b', o', c', h1, h2, h3, h4, h5⟩
                  · rw [HZ.out] at h0; omega
                  · cases h1
                    simp only [Value.ownBlock, Option.some.injEq] at hg
                    subst hg
                    exact Nat.lt_of_lt_of_le h4 HB1.out.size)) HOP.out.i (by rw [HZ.out]; exact hzl)
                have HTL := Lib.hid htl
                clear hback hl hfK htl hp
                go_wp2_with fail
                refine HTL.out.mono ?_
                rintro e w5 ⟨rfl, h5⟩
                have HT := Lib.hid (HBK.out _ _ _ h5)
                obtain ⟨hg1, hg2⟩ := HGI0.out.tell false op.t (bounds_i64 HOP.out.t) op.l HOP.out.i (by rw [HZ.out]; omega)
                obtain ⟨S', hS'⟩ : ∃ z, (S0.tell false op.t op.l).2 = z := ⟨_, rfl⟩
                rw [hS'] at HT hg1 hg2
                rw [HZ.out] at hg1
                have HGI2 := Lib.hid (show GInv S' sure (75 * (i + 1) + 21 * sumG (l.take (i + 1))) by rw [HTK.out]; exact hg1.more (by omega))
                have HBIG := Lib.hid (fun p => hg1.big (by omega) p)
                have HPRE := Lib.hid (fun p => show was' p <+: nowO S' p by rw [hg2, HWE.out]; exact List.prefix_refl _)
                have HLEN := Lib.hid (fun (_ : True) p => show (was' p).length = (countsO (S'.r p)).length by rw [HWE.out, ← hg2]; rfl)
                clear h5 hS' hg1 hg2
                go_wp2_with fail
                go_loopw [89] (fun jx X => ∃ j : Nat, jx = .int .i64 (j : Int) ∧ j ≤ 2 ∧ Hid (GSt w1 X o' w1.heap.size g7 g9 g10 op S' s x' sure was')) (fun jx _ => 2 - (intOf jx).toNat)
                case atStart => exact ⟨0, rfl, by omega, HT⟩
                case round =>
                  obtain ⟨j, rfl, hj, HT2⟩ := hrel
                  have hjj : j = 0 ∨ j = 1 ∨ j = 2 := by omega
                  rcases hjj with rfl | rfl | rfl
                  · have hc := counts_any HT2.out.out.live false (HBIG.out false)
                    have HC := Lib.hid hc
                    clear hc
                    go_wp2_with fail
                    refine HC.out.mono ?_
                    rintro e w8 ⟨v8, rfl, hown8, hb8⟩
                    obtain ⟨a8, c8, rfl⟩ := (Reads.own hown8).shape
                    have HT8 := Lib.hid (HT2.out.below hb8)
                    have HB8 := Lib.hid hb8
                    have HOWN8 := Lib.hid hown8
                    obtain ⟨ax, cx, hxv⟩ := (HT2.out.rx false).shape
                    have hz8 := HT8.out.cellW false
                    rw [hxv] at hz8
                    have hbg := begins_any w8 _ _ _ _ (Reads.own hown8) (HT8.out.rx false) (HPRE.out false)
                    rw [hxv] at hbg
                    have HBG := Lib.hid hbg
                    have HXV := Lib.hid hxv
                    have HQQ := Lib.hid (show True → (countsO (S'.r false)).length = (was' false).length from fun h => (HLEN.out h false).symm)
                    obtain ⟨q1, hq1⟩ : ∃ z, (countsO (S'.r false)).length = z := ⟨_, rfl⟩
                    obtain ⟨q2, hq2⟩ : ∃ z, (was' false).length = z := ⟨_, rfl⟩
                    have HQ1 := Lib.hid hq1
                    have HQ2 := Lib.hid hq2
                    rw [hq1] at HQQ HBG ⊢
                    rw [hq2] at HQQ HBG hz8
                    clear hown8 hb8 hbg hxv hq1 hq2
                    replace hz8 : w8.cell? ⟨g10, 0, none⟩ = some (.slice ax q2 cx) := hz8
                    go_wp2_with fail
                    refine HBG.out.mono ?_
                    rintro e w9 ⟨rfl, hb9⟩
                    have HT9 := Lib.hid (HT8.out.below hb9)
                    have hz9 := HT9.out.cellW false
                    rw [HXV.out, HQ2.out] at hz9
                    replace hz9 : w9.cell? ⟨g10, 0, none⟩ = some (.slice ax q2 cx) := hz9
                    have hk9 : w9.cell? ⟨g9, 0, none⟩ = some (.int .i64 0) := HT9.out.cellO.1.trans (by rw [HKD.out])
                    have hs9 : w9.cell? ⟨g7, 0, none⟩ = some _ := HT9.out.cellS false
                    have hf9 : w9.frozen? ⟨g7, 0, none⟩ = false := cells_free HT9.out.c7 _
                    have HB9 := Lib.hid (bel_trans HB8.out hb9)
                    have HOWN9 := Lib.hid (own_below HOWN8.out hb9)
                    clear hb9
                    obtain rfl : q1 = q2 := HQQ.out trivial
                    go_wp2_with fail
                    go_roundw
                    case rel => exact ⟨1, by go_num, by omega, HT9⟩
                    case measure => simp [intOf]
                  · have hc := counts_any HT2.out.out.live true (HBIG.out true)
                    have HC := Lib.hid hc
                    clear hc
                    go_wp2_with fail
                    refine HC.out.mono ?_
                    rintro e w8 ⟨v8, rfl, hown8, hb8⟩
                    obtain ⟨a8, c8, rfl⟩ := (Reads.own hown8).shape
                    have HT8 := Lib.hid (HT2.out.below hb8)
                    have HB8 := Lib.hid hb8
                    have HOWN8 := Lib.hid hown8
                    obtain ⟨ax, cx, hxv⟩ := (HT2.out.rx true).shape
                    have hz8 := HT8.out.cellW true
                    rw [hxv] at hz8
                    have hbg := begins_any w8 _ _ _ _ (Reads.own hown8) (HT8.out.rx true) (HPRE.out true)
                    rw [hxv] at hbg
                    have HBG := Lib.hid hbg
                    have HXV := Lib.hid hxv
                    have HQQ := Lib.hid (show True → (countsO (S'.r true)).length = (was' true).length from fun h => (HLEN.out h true).symm)
                    obtain ⟨q1, hq1⟩ : ∃ z, (countsO (S'.r true)).length = z := ⟨_, rfl⟩
                    obtain ⟨q2, hq2⟩ : ∃ z, (was' true).length = z := ⟨_, rfl⟩
                    have HQ1 := Lib.hid hq1
                    have HQ2 := Lib.hid hq2
                    rw [hq1] at HQQ HBG ⊢
                    rw [hq2] at HQQ HBG hz8
                    clear hown8 hb8 hbg hxv hq1 hq2
                    replace hz8 : w8.cell? ⟨g10, 1, none⟩ = some (.slice ax q2 cx) := hz8
                    go_wp2_with fail
                    refine HBG.out.mono ?_
                    rintro e w9 ⟨rfl, hb9⟩
                    have HT9 := Lib.hid (HT8.out.below hb9)
                    have hz9 := HT9.out.cellW true
                    rw [HXV.out, HQ2.out] at hz9
                    replace hz9 : w9.cell? ⟨g10, 1, none⟩ = some (.slice ax q2 cx) := hz9
                    have hk9 : w9.cell? ⟨g9, 0, none⟩ = some (.int .i64 0) := HT9.out.cellO.1.trans (by rw [HKD.out])
                    have hs9 : w9.cell? ⟨g7, 1, none⟩ = some _ := HT9.out.cellS true
                    have hf9 : w9.frozen? ⟨g7, 1, none⟩ = false := cells_free HT9.out.c7 _
                    have HB9 := Lib.hid (bel_trans HB8.out hb9)
                    have HOWN9 := Lib.hid (own_below HOWN8.out hb9)
                    clear hb9
                    obtain rfl : q1 = q2 := HQQ.out trivial
                    go_wp2_with fail
                    go_roundw
                    case rel => exact ⟨2, by go_num, by omega, HT9⟩
                    case measure => simp [intOf]
                  · go_wp2_with fail
                    go_roundw
                    case rel => exact ⟨i + 1, o', S', s, sure, rfl, by omega, by go_num, Lib.hid HT2.out.loop, HGI2⟩
                    case measure => simp [intOf]; omega
              by_cases hn1 : op.n = 1
              · have hp : op.n = 1 := hn1
                have c1 : X.cell? ⟨g9, 1, none⟩ = some (.int .i64 1) := HT.out.cellO.2.1.trans (by rw [hp])
                obtain ⟨f, hfK, hl, hback⟩ := HT.out.call
                have HBK := Lib.hid hback
                have htl := otell_e hl (HGI0.out.fit (by omega)) (by omega) true op.t (bounds_i64 HOP.out.t) (.slice xa z xc) op.l (by rw [HZ.out]; exact HRX.out _ HT.out.out.old) (fun g hg h0 => hfK g (by
                  rcases HXR.out with ⟨a', c', h1, h2, h3⟩ | ⟨b', o', c', h1, h2, h3, h4, h5⟩
                  · rw [HZ.out] at h0; omega
                  · cases h1
                    simp only [Value.ownBlock, Option.some.injEq] at hg
                    subst hg
                    exact Nat.lt_of_lt_of_le h4 HB1.out.size)) HOP.out.i (by rw [HZ.out]; exact hzl)
                have HTL := Lib.hid htl
                clear hback hl hfK htl hp
                go_wp2_with fail
                refine HTL.out.mono ?_
                rintro e w5 ⟨rfl, h5⟩
                have HT := Lib.hid (HBK.out _ _ _ h5)
                obtain ⟨hg1, hg2⟩ := HGI0.out.tell true op.t (bounds_i64 HOP.out.t) op.l HOP.out.i (by rw [HZ.out]; omega)
                obtain ⟨S', hS'⟩ : ∃ z, (S0.tell true op.t op.l).2 = z := ⟨_, rfl⟩
                rw [hS'] at HT hg1 hg2
                rw [HZ.out] at hg1
                have HGI2 := Lib.hid (show GInv S' sure (75 * (i + 1) + 21 * sumG (l.take (i + 1))) by rw [HTK.out]; exact hg1.more (by omega))
                have HBIG := Lib.hid (fun p => hg1.big (by omega) p)
                have HPRE := Lib.hid (fun p => show was' p <+: nowO S' p by rw [hg2, HWE.out]; exact List.prefix_refl _)
                have HLEN := Lib.hid (fun (_ : True) p => show (was' p).length = (countsO (S'.r p)).length by rw [HWE.out, ← hg2]; rfl)
                clear h5 hS' hg1 hg2
                go_wp2_with fail
                go_loopw [89] (fun jx X => ∃ j : Nat, jx = .int .i64 (j : Int) ∧ j ≤ 2 ∧ Hid (GSt w1 X o' w1.heap.size g7 g9 g10 op S' s x' sure was')) (fun jx _ => 2 - (intOf jx).toNat)
                case atStart => exact ⟨0, rfl, by omega, HT⟩
                case round =>
                  obtain ⟨j, rfl, hj, HT2⟩ := hrel
                  have hjj : j = 0 ∨ j = 1 ∨ j = 2 := by omega
                  rcases hjj with rfl | rfl | rfl
                  · have hc := counts_any HT2.out.out.live false (HBIG.out false)
                    have HC := Lib.hid hc
                    clear hc
                    go_wp2_with fail
                    refine HC.out.mono ?_
                    rintro e w8 ⟨v8, rfl, hown8, hb8⟩
                    obtain ⟨a8, c8, rfl⟩ := (Reads.own hown8).shape
                    have HT8 := Lib.hid (HT2.out.below hb8)
                    have HB8 := Lib.hid hb8
                    have HOWN8 := Lib.hid hown8
                    obtain ⟨ax, cx, hxv⟩ := (HT2.out.rx false).shape
                    have hz8 := HT8.out.cellW false
                    rw [hxv] at hz8
                    have hbg := begins_any w8 _ _ _ _ (Reads.own hown8) (HT8.out.rx false) (HPRE.out false)
                    rw [hxv] at hbg
                    have HBG := Lib.hid hbg
                    have HXV := Lib.hid hxv
                    have HQQ := Lib.hid (show True → (countsO (S'.r false)).length = (was' false).length from fun h => (HLEN.out h false).symm)
                    obtain ⟨q1, hq1⟩ : ∃ z, (countsO (S'.r false)).length = z := ⟨_, rfl⟩
                    obtain ⟨q2, hq2⟩ : ∃ z, (was' false).length = z := ⟨_, rfl⟩
                    have HQ1 := Lib.hid hq1
                    have HQ2 := Lib.hid hq2
                    rw [hq1] at HQQ HBG ⊢
                    rw [hq2] at HQQ HBG hz8
                    clear hown8 hb8 hbg hxv hq1 hq2
                    replace hz8 : w8.cell? ⟨g10, 0, none⟩ = some (.slice ax q2 cx) := hz8
                    go_wp2_with fail
                    refine HBG.out.mono ?_
                    rintro e w9 ⟨rfl, hb9⟩
                    have HT9 := Lib.hid (HT8.out.below hb9)
                    have hz9 := HT9.out.cellW false
                    rw [HXV.out, HQ2.out] at hz9
                    replace hz9 : w9.cell? ⟨g10, 0, none⟩ = some (.slice ax q2 cx) := hz9
                    have hk9 : w9.cell? ⟨g9, 0, none⟩ = some (.int .i64 0) := HT9.out.cellO.1.trans (by rw [HKD.out])
                    have hs9 : w9.cell? ⟨g7, 0, none⟩ = some _ := HT9.out.cellS false
                    have hf9 : w9.frozen? ⟨g7, 0, none⟩ = false := cells_free HT9.out.c7 _
                    have HB9 := Lib.hid (bel_trans HB8.out hb9)
                    have HOWN9 := Lib.hid (own_below HOWN8.out hb9)
                    clear hb9
                    obtain rfl : q1 = q2 := HQQ.out trivial
                    go_wp2_with fail
                    go_roundw
                    case rel => exact ⟨1, by go_num, by omega, HT9⟩
                    case measure => simp [intOf]
                  · have hc := counts_any HT2.out.out.live true (HBIG.out true)
                    have HC := Lib.hid hc
                    clear hc
                    go_wp2_with fail
                    refine HC.out.mono ?_
                    rintro e w8 ⟨v8, rfl, hown8, hb8⟩
                    obtain ⟨a8, c8, rfl⟩ := (Reads.own hown8).shape
                    have HT8 := Lib.hid (HT2.out.below hb8)
                    have HB8 := Lib.hid hb8
                    have HOWN8 := Lib.hid hown8
                    obtain ⟨ax, cx, hxv⟩ := (HT2.out.rx true).shape
                    have hz8 := HT8.out.cellW true
                    rw [hxv] at hz8
                    have hbg := begins_any w8 _ _ _ _ (Reads.own hown8) (HT8.out.rx true) (HPRE.out true)
                    rw [hxv] at hbg
                    have HBG := Lib.hid hbg
                    have HXV := Lib.hid hxv
                    have HQQ := Lib.hid (show True → (countsO (S'.r true)).length = (was' true).length from fun h => (HLEN.out h true).symm)
                    obtain ⟨q1, hq1⟩ : ∃ z, (countsO (S'.r true)).length = z := ⟨_, rfl⟩
                    obtain ⟨q2, hq2⟩ : ∃ z, (was' true).length = z := ⟨_, rfl⟩
                    have HQ1 := Lib.hid hq1
                    have HQ2 := Lib.hid hq2
                    rw [hq1] at HQQ HBG ⊢
                    rw [hq2] at HQQ HBG hz8
                    clear hown8 hb8 hbg hxv hq1 hq2
                    replace hz8 : w8.cell? ⟨g10, 1, none⟩ = some (.slice ax q2 cx) := hz8
                    go_wp2_with fail
                    refine HBG.out.mono ?_
                    rintro e w9 ⟨rfl, hb9⟩
                    have HT9 := Lib.hid (HT8.out.below hb9)
                    have hz9 := HT9.out.cellW true
                    rw [HXV.out, HQ2.out] at hz9
                    replace hz9 : w9.cell? ⟨g10, 1, none⟩ = some (.slice ax q2 cx) := hz9
                    have hk9 : w9.cell? ⟨g9, 0, none⟩ = some (.int .i64 0) := HT9.out.cellO.1.trans (by rw [HKD.out])
                    have hs9 : w9.cell? ⟨g7, 1, none⟩ = some _ := HT9.out.cellS true
                    have hf9 : w9.frozen? ⟨g7, 1, none⟩ = false := cells_free HT9.out.c7 _
                    have HB9 := Lib.hid (bel_trans HB8.out hb9)
                    have HOWN9 := Lib.hid (own_below HOWN8.out hb9)
                    clear hb9
                    obtain rfl : q1 = q2 := HQQ.out trivial
                    go_wp2_with fail
                    go_roundw
                    case rel => exact ⟨2, by go_num, by omega, HT9⟩
                    case measure => simp [intOf]
                  · go_wp2_with fail
                    go_roundw
                    case rel => exact ⟨i + 1, o', S', s, sure, rfl, by omega, by go_num, Lib.hid HT2.out.loop, HGI2⟩
                    case measure => simp [intOf]; omega
              have c1 : X.cell? ⟨g9, 1, none⟩ = some (.int .i64 op.n) := HT.out.cellO.2.1
              have hno := otell_no o' op.n op.t (by omega) (.slice xa z xc) X
              have HNO := Lib.hid hno
              clear hno
              go_wp2_with fail
              refine HNO.out.mono ?_
              rintro e w5 ⟨rfl, rfl⟩
              have HGI2 := Lib.hid (show GInv S0 sure (75 * (i + 1) + 21 * sumG (l.take (i + 1))) by rw [HTK.out]; exact HGI0.out.more (by omega))
              have HBIG := Lib.hid (fun p => HGI0.out.big (by omega) p)
              have HPRE := Lib.hid (fun p => show was' p <+: nowO S0 p by rw [HWE.out]; exact List.prefix_refl _)
              have HLEN := Lib.hid (fun (_ : True) p => show (was' p).length = (countsO (S0.r p)).length by rw [HWE.out]; rfl)
              obtain ⟨S', hS'⟩ : ∃ z, S0 = z := ⟨_, rfl⟩
              rw [hS'] at HT HGI2 HBIG HPRE HLEN
              clear hS'
              go_wp2_with fail
              go_loopw [89] (fun jx X => ∃ j : Nat, jx = .int .i64 (j : Int) ∧ j ≤ 2 ∧ Hid (GSt w1 X o' w1.heap.size g7 g9 g10 op S' s x' sure was')) (fun jx _ => 2 - (intOf jx).toNat)
              case atStart => exact ⟨0, rfl, by omega, HT⟩
              case round =>
                obtain ⟨j, rfl, hj, HT2⟩ := hrel
                have hjj : j = 0 ∨ j = 1 ∨ j = 2 := by omega
                rcases hjj with rfl | rfl | rfl
                · have hc := counts_any HT2.out.out.live false (HBIG.out false)
                  have HC := Lib.hid hc
                  clear hc
                  go_wp2_with fail
                  refine HC.out.mono ?_
                  rintro e w8 ⟨v8, rfl, hown8, hb8⟩
                  obtain ⟨a8, c8, rfl⟩ := (Reads.own hown8).shape
                  have HT8 := Lib.hid (HT2.out.below hb8)
                  have HB8 := Lib.hid hb8
                  have HOWN8 := Lib.hid hown8
                  obtain ⟨ax, cx, hxv⟩ := (HT2.out.rx false).shape
                  have hz8 := HT8.out.cellW false
                  rw [hxv] at hz8
                  have hbg := begins_any w8 _ _ _ _ (Reads.own hown8) (HT8.out.rx false) (HPRE.out false)
                  rw [hxv] at hbg
                  have HBG := Lib.hid hbg
                  have HXV := Lib.hid hxv
                  have HQQ := Lib.hid (show True → (countsO (S'.r false)).length = (was' false).length from fun h => (HLEN.out h false).symm)
                  obtain ⟨q1, hq1⟩ : ∃ z, (countsO (S'.r false)).length = z := ⟨_, rfl⟩
                  obtain ⟨q2, hq2⟩ : ∃ z, (was' false).length = z := ⟨_, rfl⟩
                  have HQ1 := Lib.hid hq1
                  have HQ2 := Lib.hid hq2
                  rw [hq1] at HQQ HBG ⊢
                  rw [hq2] at HQQ HBG hz8
                  clear hown8 hb8 hbg hxv hq1 hq2
                  replace hz8 : w8.cell? ⟨g10, 0, none⟩ = some (.slice ax q2 cx) := hz8
                  go_wp2_with fail
                  refine HBG.out.mono ?_
                  rintro e w9 ⟨rfl, hb9⟩
                  have HT9 := Lib.hid (HT8.out.below hb9)
                  have hz9 := HT9.out.cellW false
                  rw [HXV.out, HQ2.out] at hz9
                  replace hz9 : w9.cell? ⟨g10, 0, none⟩ = some (.slice ax q2 cx) := hz9
                  have hk9 : w9.cell? ⟨g9, 0, none⟩ = some (.int .i64 0) := HT9.out.cellO.1.trans (by rw [HKD.out])
                  have hs9 : w9.cell? ⟨g7, 0, none⟩ = some _ := HT9.out.cellS false
                  have hf9 : w9.frozen? ⟨g7, 0, none⟩ = false := cells_free HT9.out.c7 _
                  have HB9 := Lib.hid (bel_trans HB8.out hb9)
                  have HOWN9 := Lib.hid (own_below HOWN8.out hb9)
                  clear hb9
                  obtain rfl : q1 = q2 := HQQ.out trivial
                  go_wp2_with fail
                  go_roundw
                  case rel => exact ⟨1, by go_num, by omega, HT9⟩
                  case measure => simp [intOf]
                · have hc := counts_any HT2.out.out.live true (HBIG.out true)
                  have HC := Lib.hid hc
                  clear hc
                  go_wp2_with fail
                  refine HC.out.mono ?_
                  rintro e w8 ⟨v8, rfl, hown8, hb8⟩
                  obtain ⟨a8, c8, rfl⟩ := (Reads.own hown8).shape
                  have HT8 := Lib.hid (HT2.out.below hb8)
                  have HB8 := Lib.hid hb8
                  have HOWN8 := Lib.hid hown8
                  obtain ⟨ax, cx, hxv⟩ := (HT2.out.rx true).shape
                  have hz8 := HT8.out.cellW true
                  rw [hxv] at hz8
                  have hbg := begins_any w8 _ _ _ _ (Reads.own hown8) (HT8.out.rx true) (HPRE.out true)
                  rw [hxv] at hbg
                  have HBG := Lib.hid hbg
                  have HXV := Lib.hid hxv
                  have HQQ := Lib.hid (show True → (countsO (S'.r true)).length = (was' true).length from fun h => (HLEN.out h true).symm)
                  obtain ⟨q1, hq1⟩ : ∃ z, (countsO (S'.r true)).length = z := ⟨_, rfl⟩
                  obtain ⟨q2, hq2⟩ : ∃ z, (was' true).length = z := ⟨_, rfl⟩
                  have HQ1 := Lib.hid hq1
                  have HQ2 := Lib.hid hq2
                  rw [hq1] at HQQ HBG ⊢
                  rw [hq2] at HQQ HBG hz8
                  clear hown8 hb8 hbg hxv hq1 hq2
                  replace hz8 : w8.cell? ⟨g10, 1, none⟩ = some (.slice ax q2 cx) := hz8
                  go_wp2_with fail
                  refine HBG.out.mono ?_
                  rintro e w9 ⟨rfl, hb9⟩
                  have HT9 := Lib.hid (HT8.out.below hb9)
                  have hz9 := HT9.out.cellW true
                  rw [HXV.out, HQ2.out] at hz9
                  replace hz9 : w9.cell? ⟨g10, 1, none⟩ = some (.slice ax q2 cx) := hz9
                  have hk9 : w9.cell? ⟨g9, 0, none⟩ = some (.int .i64 0) := HT9.out.cellO.1.trans (by rw [HKD.out])
                  have hs9 : w9.cell? ⟨g7, 1, none⟩ = some _ := HT9.out.cellS true
                  have hf9 : w9.frozen? ⟨g7, 1, none⟩ = false := cells_free HT9.out.c7 _
                  have HB9 := Lib.hid (bel_trans HB8.out hb9)
                  have HOWN9 := Lib.hid (own_below HOWN8.out hb9)
                  clear hb9
                  obtain rfl : q1 = q2 := HQQ.out trivial
                  go_wp2_with fail
                  go_roundw
                  case rel => exact ⟨2, by go_num, by omega, HT9⟩
                  case measure => simp [intOf]
                · go_wp2_with fail
                  go_roundw
                  case rel => exact ⟨i + 1, o', S', s, sure, rfl, by omega, by go_num, Lib.hid HT2.out.loop, HGI2⟩
                  case measure => simp [intOf]; omega
            · have hkz : ¬ op.kind = 0 := hk0
              by_cases hk1 : op.kind = 1
              · have HKD := Lib.hid hk1
                have c0 : X.cell? ⟨g9, 0, none⟩ = some (.int .i64 1) := HT.out.cellO.1.trans (by rw [hk1])
                obtain ⟨f, hfK, hl, hback⟩ := HT.out.call
                have HBK := Lib.hid hback
                have hsy := osync_any hl
                obtain ⟨hg1, hg2, hg3⟩ := HGI0.out.sync
                obtain ⟨E, hE⟩ : ∃ z, S0.sync.1 = z := ⟨_, rfl⟩
                obtain ⟨S', hS'⟩ : ∃ z, S0.sync.2 = z := ⟨_, rfl⟩
                rw [hE] at hsy hg3
                rw [hS'] at hsy hg1 hg2 hg3
                have HSY := Lib.hid hsy
                have HG3 := Lib.hid hg3
                have HG1 := Lib.hid hg1
                have HBIG := Lib.hid (fun p => hg1.big (by omega) p)
                have HPRE := Lib.hid (fun p => show was' p <+: nowO S' p by rw [hg2, HWE.out]; exact List.prefix_refl _)
                have HLEN := Lib.hid (fun (h : False) p => show (was' p).length = (countsO (S'.r p)).length from h.elim)
                clear hback hl hfK hsy hg1 hg2 hg3 hE hS' hk1 hk0 hkz
                go_wp2_with fail
                refine HSY.out.mono ?_
                rintro e w5 ⟨rfl, h5⟩
                have HT := Lib.hid (HBK.out _ _ _ h5)
                clear h5
                by_cases hE0 : E = 0
                · subst hE0
                  have HGI2 := Lib.hid (show GInv S' (nowO S') (75 * (i + 1) + 21 * sumG (l.take (i + 1))) by rw [HTK.out]; exact (HG3.out rfl).more (by omega))
                  go_wp2_with fail
                  go_loopw [89] (fun jx X => ∃ (j : Nat) (s2 : Bool → Value) (sure2 : Bool → List OutX), jx = .int .i64 (j : Int) ∧ j ≤ 2 ∧ Hid (GSt w1 X o' w1.heap.size g7 g9 g10 op S' s2 x' sure2 was') ∧ Hid (∀ p, idx p < j → sure2 p = nowO S' p)) (fun jx _ => 2 - (intOf jx).toNat)
                  case atStart => exact ⟨0, _, _, rfl, by omega, HT, Lib.hid (fun p hp => absurd hp (Nat.not_lt_zero _))⟩
                  case round =>
                    obtain ⟨j, s2, sure2, rfl, hj, HT2, HSU⟩ := hrel
                    have hjj : j = 0 ∨ j = 1 ∨ j = 2 := by omega
                    rcases hjj with rfl | rfl | rfl
                    · have hc := counts_any HT2.out.out.live false (HBIG.out false)
                      have HC := Lib.hid hc
                      clear hc
                      go_wp2_with fail
                      refine HC.out.mono ?_
                      rintro e w8 ⟨v8, rfl, hown8, hb8⟩
                      obtain ⟨a8, c8, rfl⟩ := (Reads.own hown8).shape
                      have HT8 := Lib.hid (HT2.out.below hb8)
                      have HB8 := Lib.hid hb8
                      have HOWN8 := Lib.hid hown8
                      obtain ⟨ax, cx, hxv⟩ := (HT2.out.rx false).shape
                      have hz8 := HT8.out.cellW false
                      rw [hxv] at hz8
                      have hbg := begins_any w8 _ _ _ _ (Reads.own hown8) (HT8.out.rx false) (HPRE.out false)
                      rw [hxv] at hbg
                      have HBG := Lib.hid hbg
                      have HXV := Lib.hid hxv
                      have HQQ := Lib.hid (show False → (countsO (S'.r false)).length = (was' false).length from fun h => (HLEN.out h false).symm)
                      obtain ⟨q1, hq1⟩ : ∃ z, (countsO (S'.r false)).length = z := ⟨_, rfl⟩
                      obtain ⟨q2, hq2⟩ : ∃ z, (was' false).length = z := ⟨_, rfl⟩
                      have HQ1 := Lib.hid hq1
                      have HQ2 := Lib.hid hq2
                      rw [hq1] at HQQ HBG ⊢
                      rw [hq2] at HQQ HBG hz8
                      clear hown8 hb8 hbg hxv hq1 hq2
                      replace hz8 : w8.cell? ⟨g10, 0, none⟩ = some (.slice ax q2 cx) := hz8
                      go_wp2_with fail
                      refine HBG.out.mono ?_
                      rintro e w9 ⟨rfl, hb9⟩
                      have HT9 := Lib.hid (HT8.out.below hb9)
                      have hz9 := HT9.out.cellW false
                      rw [HXV.out, HQ2.out] at hz9
                      replace hz9 : w9.cell? ⟨g10, 0, none⟩ = some (.slice ax q2 cx) := hz9
                      have hk9 : w9.cell? ⟨g9, 0, none⟩ = some (.int .i64 1) := HT9.out.cellO.1.trans (by rw [HKD.out])
                      have hs9 : w9.cell? ⟨g7, 0, none⟩ = some _ := HT9.out.cellS false
                      have hf9 : w9.frozen? ⟨g7, 0, none⟩ = false := cells_free HT9.out.c7 _
                      have HB9 := Lib.hid (bel_trans HB8.out hb9)
                      have HOWN9 := Lib.hid (own_below HOWN8.out hb9)
                      clear hb9
                      go_wp2_with fail
                      go_roundw
                      case rel => exact ⟨1, _, _, by go_num, by omega, Lib.hid (HT2.out.setSure2 HB9.out false _ _ (by have h := HOWN9.out; rw [HQ1.out] at h ⊢; exact h)), Lib.hid (fun p hp => by cases p <;> first | (rw [upd_same]; rfl) | (rw [upd_ne _ _ (by decide)]; exact HSU.out _ (by have hp := hp; simp [idx] at hp ⊢)))⟩
                      case measure => simp [intOf]
                    · have hc := counts_any HT2.out.out.live true (HBIG.out true)
                      have HC := Lib.hid hc
                      clear hc
                      go_wp2_with fail
                      refine HC.out.mono ?_
                      rintro e w8 ⟨v8, rfl, hown8, hb8⟩
                      obtain ⟨a8, c8, rfl⟩ := (Reads.own hown8).shape
                      have HT8 := Lib.hid (HT2.out.below hb8)
                      have HB8 := Lib.hid hb8
                      have HOWN8 := Lib.hid hown8
                      obtain ⟨ax, cx, hxv⟩ := (HT2.out.rx true).shape
                      have hz8 := HT8.out.cellW true
                      rw [hxv] at hz8
                      have hbg := begins_any w8 _ _ _ _ (Reads.own hown8) (HT8.out.rx true) (HPRE.out true)
                      rw [hxv] at hbg
                      have HBG := Lib.hid hbg
                      have HXV := Lib.hid hxv
                      have HQQ := Lib.hid (show False → (countsO (S'.r true)).length = (was' true).length from fun h => (HLEN.out h true).symm)
                      obtain ⟨q1, hq1⟩ : ∃ z, (countsO (S'.r true)).length = z := ⟨_, rfl⟩
                      obtain ⟨q2, hq2⟩ : ∃ z, (was' true).length = z := ⟨_, rfl⟩
                      have HQ1 := Lib.hid hq1
                      have HQ2 := Lib.hid hq2
                      rw [hq1] at HQQ HBG ⊢
                      rw [hq2] at HQQ HBG hz8
                      clear hown8 hb8 hbg hxv hq1 hq2
                      replace hz8 : w8.cell? ⟨g10, 1, none⟩ = some (.slice ax q2 cx) := hz8
                      go_wp2_with fail
                      refine HBG.out.mono ?_
                      rintro e w9 ⟨rfl, hb9⟩
                      have HT9 := Lib.hid (HT8.out.below hb9)
                      have hz9 := HT9.out.cellW true
                      rw [HXV.out, HQ2.out] at hz9
                      replace hz9 : w9.cell? ⟨g10, 1, none⟩ = some (.slice ax q2 cx) := hz9
                      have hk9 : w9.cell? ⟨g9, 0, none⟩ = some (.int .i64 1) := HT9.out.cellO.1.trans (by rw [HKD.out])
                      have hs9 : w9.cell? ⟨g7, 1, none⟩ = some _ := HT9.out.cellS true
                      have hf9 : w9.frozen? ⟨g7, 1, none⟩ = false := cells_free HT9.out.c7 _
                      have HB9 := Lib.hid (bel_trans HB8.out hb9)
                      have HOWN9 := Lib.hid (own_below HOWN8.out hb9)
                      clear hb9
                      go_wp2_with fail
                      go_roundw
                      case rel => exact ⟨2, _, _, by go_num, by omega, Lib.hid (HT2.out.setSure2 HB9.out true _ _ (by have h := HOWN9.out; rw [HQ1.out] at h ⊢; exact h)), Lib.hid (fun p hp => by cases p <;> first | (rw [upd_same]; rfl) | (rw [upd_ne _ _ (by decide)]; exact HSU.out _ (by have hp := hp; simp [idx] at hp ⊢)))⟩
                      case measure => simp [intOf]
                    · go_wp2_with fail
                      have hsu : sure2 = nowO S' := funext fun p => HSU.out p (by cases p <;> decide)
                      subst hsu
                      go_roundw
                      case rel => exact ⟨i + 1, o', S', s2, nowO S', rfl, by omega, by go_num, Lib.hid HT2.out.loop, HGI2⟩
                      case measure => simp [intOf]; omega
                · have HGI2 := Lib.hid (show GInv S' sure (75 * (i + 1) + 21 * sumG (l.take (i + 1))) by rw [HTK.out]; exact HG1.out.more (by omega))
                  go_wp2_with fail
                  go_loopw [89] (fun jx X => ∃ j : Nat, jx = .int .i64 (j : Int) ∧ j ≤ 2 ∧ Hid (GSt w1 X o' w1.heap.size g7 g9 g10 op S' s x' sure was')) (fun jx _ => 2 - (intOf jx).toNat)
                  case atStart => exact ⟨0, rfl, by omega, HT⟩
                  case round =>
                    obtain ⟨j, rfl, hj, HT2⟩ := hrel
                    have hjj : j = 0 ∨ j = 1 ∨ j = 2 := by omega
                    rcases hjj with rfl | rfl | rfl
                    · have hc := counts_any HT2.out.out.live false (HBIG.out false)
                      have HC := Lib.hid hc
                      clear hc
                      go_wp2_with fail
                      refine HC.out.mono ?_
                      rintro e w8 ⟨v8, rfl, hown8, hb8⟩
                      obtain ⟨a8, c8, rfl⟩ := (Reads.own hown8).shape
                      have HT8 := Lib.hid (HT2.out.below hb8)
                      have HB8 := Lib.hid hb8
                      have HOWN8 := Lib.hid hown8
                      obtain ⟨ax, cx, hxv⟩ := (HT2.out.rx false).shape
                      have hz8 := HT8.out.cellW false
                      rw [hxv] at hz8
                      have hbg := begins_any w8 _ _ _ _ (Reads.own hown8) (HT8.out.rx false) (HPRE.out false)
                      rw [hxv] at hbg
                      have HBG := Lib.hid hbg
                      have HXV := Lib.hid hxv
                      have HQQ := Lib.hid (show False → (countsO (S'.r false)).length = (was' false).length from fun h => (HLEN.out h false).symm)
                      obtain ⟨q1, hq1⟩ : ∃ z, (countsO (S'.r false)).length = z := ⟨_, rfl⟩
                      obtain ⟨q2, hq2⟩ : ∃ z, (was' false).length = z := ⟨_, rfl⟩
                      have HQ1 := Lib.hid hq1
                      have HQ2 := Lib.hid hq2
                      rw [hq1] at HQQ HBG ⊢
                      rw [hq2] at HQQ HBG hz8
                      clear hown8 hb8 hbg hxv hq1 hq2
                      replace hz8 : w8.cell? ⟨g10, 0, none⟩ = some (.slice ax q2 cx) := hz8
                      go_wp2_with fail
                      refine HBG.out.mono ?_
                      rintro e w9 ⟨rfl, hb9⟩
                      have HT9 := Lib.hid (HT8.out.below hb9)
                      have hz9 := HT9.out.cellW false
                      rw [HXV.out, HQ2.out] at hz9
                      replace hz9 : w9.cell? ⟨g10, 0, none⟩ = some (.slice ax q2 cx) := hz9
                      have hk9 : w9.cell? ⟨g9, 0, none⟩ = some (.int .i64 1) := HT9.out.cellO.1.trans (by rw [HKD.out])
                      have hs9 : w9.cell? ⟨g7, 0, none⟩ = some _ := HT9.out.cellS false
                      have hf9 : w9.frozen? ⟨g7, 0, none⟩ = false := cells_free HT9.out.c7 _
                      have HB9 := Lib.hid (bel_trans HB8.out hb9)
                      have HOWN9 := Lib.hid (own_below HOWN8.out hb9)
                      clear hb9
                      go_wp2_with fail
                      go_roundw
                      case rel => exact ⟨1, by go_num, by omega, HT9⟩
                      case measure => simp [intOf]
                    · have hc := counts_any HT2.out.out.live true (HBIG.out true)
                      have HC := Lib.hid hc
                      clear hc
                      go_wp2_with fail
                      refine HC.out.mono ?_
                      rintro e w8 ⟨v8, rfl, hown8, hb8⟩
                      obtain ⟨a8, c8, rfl⟩ := (Reads.own hown8).shape
                      have HT8 := Lib.hid (HT2.out.below hb8)
                      have HB8 := Lib.hid hb8
                      have HOWN8 := Lib.hid hown8
                      obtain ⟨ax, cx, hxv⟩ := (HT2.out.rx true).shape
                      have hz8 := HT8.out.cellW true
                      rw [hxv] at hz8
                      have hbg := begins_any w8 _ _ _ _ (Reads.own hown8) (HT8.out.rx true) (HPRE.out true)
                      rw [hxv] at hbg
                      have HBG := Lib.hid hbg
                      have HXV := Lib.hid hxv
                      have HQQ := Lib.hid (show False → (countsO (S'.r true)).length = (was' true).length from fun h => (HLEN.out h true).symm)
                      obtain ⟨q1, hq1⟩ : ∃ z, (countsO (S'.r true)).length = z := ⟨_, rfl⟩
                      obtain ⟨q2, hq2⟩ : ∃ z, (was' true).length = z := ⟨_, rfl⟩
                      have HQ1 := Lib.hid hq1
                      have HQ2 := Lib.hid hq2
                      rw [hq1] at HQQ HBG ⊢
                      rw [hq2] at HQQ HBG hz8
                      clear hown8 hb8 hbg hxv hq1 hq2
                      replace hz8 : w8.cell? ⟨g10, 1, none⟩ = some (.slice ax q2 cx) := hz8
                      go_wp2_with fail
                      refine HBG.out.mono ?_
                      rintro e w9 ⟨rfl, hb9⟩
                      have HT9 := Lib.hid (HT8.out.below hb9)
                      have hz9 := HT9.out.cellW true
                      rw [HXV.out, HQ2.out] at hz9
                      replace hz9 : w9.cell? ⟨g10, 1, none⟩ = some (.slice ax q2 cx) := hz9
                      have hk9 : w9.cell? ⟨g9, 0, none⟩ = some (.int .i64 1) := HT9.out.cellO.1.trans (by rw [HKD.out])
                      have hs9 : w9.cell? ⟨g7, 1, none⟩ = some _ := HT9.out.cellS true
                      have hf9 : w9.frozen? ⟨g7, 1, none⟩ = false := cells_free HT9.out.c7 _
                      have HB9 := Lib.hid (bel_trans HB8.out hb9)
                      have HOWN9 := Lib.hid (own_below HOWN8.out hb9)
                      clear hb9
                      go_wp2_with fail
                      go_roundw
                      case rel => exact ⟨2, by go_num, by omega, HT9⟩
                      case measure => simp [intOf]
                    · go_wp2_with fail
                      go_roundw
                      case rel => exact ⟨i + 1, o', S', s, sure, rfl, by omega, by go_num, Lib.hid HT2.out.loop, HGI2⟩
                      case measure => simp [intOf]; omega
              by_cases hk2 : op.kind = 2
              · have HKD := Lib.hid hk2
                have c0 : X.cell? ⟨g9, 0, none⟩ = some (.int .i64 2) := HT.out.cellO.1.trans (by rw [hk2])
                obtain ⟨f, hfK, hl, hback⟩ := HT.out.call
                have HBK := Lib.hid hback
                have hsy := omark_any hl (HGI0.out.fit (by omega)) (by omega) op.t (bounds_i64 HOP.out.t)
                obtain ⟨hg1, hg2, hg3⟩ := HGI0.out.mark op.t (bounds_i64 HOP.out.t) (by omega)
                obtain ⟨E, hE⟩ : ∃ z, (S0.mark op.t).1 = z := ⟨_, rfl⟩
                obtain ⟨S', hS'⟩ : ∃ z, (S0.mark op.t).2 = z := ⟨_, rfl⟩
                rw [hE] at hsy hg3
                rw [hS'] at hsy hg1 hg2 hg3
                have HSY := Lib.hid hsy
                have HG3 := Lib.hid hg3
                have HG1 := Lib.hid hg1
                have HBIG := Lib.hid (fun p => hg1.big (by omega) p)
                have HPRE := Lib.hid (fun p => show was' p <+: nowO S' p by rw [HWE.out]; exact hg2 p)
                have HLEN := Lib.hid (fun (h : False) p => show (was' p).length = (countsO (S'.r p)).length from h.elim)
                clear hback hl hfK hsy hg1 hg2 hg3 hE hS' hk1 hk2 hk0 hkz
                go_wp2_with fail
                refine HSY.out.mono ?_
                rintro e w5 ⟨rfl, h5⟩
                have HT := Lib.hid (HBK.out _ _ _ h5)
                clear h5
                by_cases hE0 : E = 0
                · subst hE0
                  have HGI2 := Lib.hid (show GInv S' (nowO S') (75 * (i + 1) + 21 * sumG (l.take (i + 1))) by rw [HTK.out]; exact (HG3.out rfl).more (by omega))
                  go_wp2_with fail
                  go_loopw [89] (fun jx X => ∃ (j : Nat) (s2 : Bool → Value) (sure2 : Bool → List OutX), jx = .int .i64 (j : Int) ∧ j ≤ 2 ∧ Hid (GSt w1 X o' w1.heap.size g7 g9 g10 op S' s2 x' sure2 was') ∧ Hid (∀ p, idx p < j → sure2 p = nowO S' p)) (fun jx _ => 2 - (intOf jx).toNat)
                  case atStart => exact ⟨0, _, _, rfl, by omega, HT, Lib.hid (fun p hp => absurd hp (Nat.not_lt_zero _))⟩
                  case round =>
                    obtain ⟨j, s2, sure2, rfl, hj, HT2, HSU⟩ := hrel
                    have hjj : j = 0 ∨ j = 1 ∨ j = 2 := by omega
                    rcases hjj with rfl | rfl | rfl
                    · have hc := counts_any HT2.out.out.live false (HBIG.out false)
                      have HC := Lib.hid hc
                      clear hc
                      go_wp2_with fail
                      refine HC.out.mono ?_
                      rintro e w8 ⟨v8, rfl, hown8, hb8⟩
                      obtain ⟨a8, c8, rfl⟩ := (Reads.own hown8).shape
                      have HT8 := Lib.hid (HT2.out.below hb8)
                      have HB8 := Lib.hid hb8
                      have HOWN8 := Lib.hid hown8
                      obtain ⟨ax, cx, hxv⟩ := (HT2.out.rx false).shape
                      have hz8 := HT8.out.cellW false
                      rw [hxv] at hz8
                      have hbg := begins_any w8 _ _ _ _ (Reads.own hown8) (HT8.out.rx false) (HPRE.out false)
                      rw [hxv] at hbg
                      have HBG := Lib.hid hbg
                      have HXV := Lib.hid hxv
                      have HQQ := Lib.hid (show False → (countsO (S'.r false)).length = (was' false).length from fun h => (HLEN.out h false).symm)
                      obtain ⟨q1, hq1⟩ : ∃ z, (countsO (S'.r false)).length = z := ⟨_, rfl⟩
                      obtain ⟨q2, hq2⟩ : ∃ z, (was' false).length = z := ⟨_, rfl⟩
                      have HQ1 := Lib.hid hq1
                      have HQ2 := Lib.hid hq2
                      rw [hq1] at HQQ HBG ⊢
                      rw [hq2] at HQQ HBG hz8
                      clear hown8 hb8 hbg hxv hq1 hq2
                      replace hz8 : w8.cell? ⟨g10, 0, none⟩ = some (.slice ax q2 cx) := hz8
                      go_wp2_with fail
                      refine HBG.out.mono ?_
                      rintro e w9 ⟨rfl, hb9⟩
                      have HT9 := Lib.hid (HT8.out.below hb9)
                      have hz9 := HT9.out.cellW false
                      rw [HXV.out, HQ2.out] at hz9
                      replace hz9 : w9.cell? ⟨g10, 0, none⟩ = some (.slice ax q2 cx) := hz9
                      have hk9 : w9.cell? ⟨g9, 0, none⟩ = some (.int .i64 2) := HT9.out.cellO.1.trans (by rw [HKD.out])
                      have hs9 : w9.cell? ⟨g7, 0, none⟩ = some _ := HT9.out.cellS false
                      have hf9 : w9.frozen? ⟨g7, 0, none⟩ = false := cells_free HT9.out.c7 _
                      have HB9 := Lib.hid (bel_trans HB8.out hb9)
                      have HOWN9 := Lib.hid (own_below HOWN8.out hb9)
                      clear hb9
                      go_wp2_with fail
                      go_roundw
                      case rel => exact ⟨1, _, _, by go_num, by omega, Lib.hid (HT2.out.setSure2 HB9.out false _ _ (by have h := HOWN9.out; rw [HQ1.out] at h ⊢; exact h)), Lib.hid (fun p hp => by cases p <;> first | (rw [upd_same]; rfl) | (rw [upd_ne _ _ (by decide)]; exact HSU.out _ (by have hp := hp; simp [idx] at hp ⊢)))⟩
                      case measure => simp [intOf]
                    · have hc := counts_any HT2.out.out.live true (HBIG.out true)
                      have HC := Lib.hid hc
                      clear hc
                      go_wp2_with fail
                      refine HC.out.mono ?_
                      rintro e w8 ⟨v8, rfl, hown8, hb8⟩
                      obtain ⟨a8, c8, rfl⟩ := (Reads.own hown8).shape
                      have HT8 := Lib.hid (HT2.out.below hb8)
                      have HB8 := Lib.hid hb8
                      have HOWN8 := Lib.hid hown8
                      obtain ⟨ax, cx, hxv⟩ := (HT2.out.rx true).shape
                      have hz8 := HT8.out.cellW true
                      rw [hxv] at hz8
                      have hbg := begins_any w8 _ _ _ _ (Reads.own hown8) (HT8.out.rx true) (HPRE.out true)
                      rw [hxv] at hbg
                      have HBG := Lib.hid hbg
                      have HXV := Lib.hid hxv
                      have HQQ := Lib.hid (show False → (countsO (S'.r true)).length = (was' true).length from fun h => (HLEN.out h true).symm)
                      obtain ⟨q1, hq1⟩ : ∃ z, (countsO (S'.r true)).length = z := ⟨_, rfl⟩
                      obtain ⟨q2, hq2⟩ : ∃ z, (was' true).length = z := ⟨_, rfl⟩
                      have HQ1 := Lib.hid hq1
                      have HQ2 := Lib.hid hq2
                      rw [hq1] at HQQ HBG ⊢
                      rw [hq2] at HQQ HBG hz8
                      clear hown8 hb8 hbg hxv hq1 hq2
                      replace hz8 : w8.cell? ⟨g10, 1, none⟩ = some (.slice ax q2 cx) := hz8
                      go_wp2_with fail
                      refine HBG.out.mono ?_
                      rintro e w9 ⟨rfl, hb9⟩
                      have HT9 := Lib.hid (HT8.out.below hb9)
                      have hz9 := HT9.out.cellW true
                      rw [HXV.out, HQ2.out] at hz9
                      replace hz9 : w9.cell? ⟨g10, 1, none⟩ = some (.slice ax q2 cx) := hz9
                      have hk9 : w9.cell? ⟨g9, 0, none⟩ = some (.int .i64 2) := HT9.out.cellO.1.trans (by rw [HKD.out])
                      have hs9 : w9.cell? ⟨g7, 1, none⟩ = some _ := HT9.out.cellS true
                      have hf9 : w9.frozen? ⟨g7, 1, none⟩ = false := cells_free HT9.out.c7 _
                      have HB9 := Lib.hid (bel_trans HB8.out hb9)
                      have HOWN9 := Lib.hid (own_below HOWN8.out hb9)
                      clear hb9
                      go_wp2_with fail
                      go_roundw
                      case rel => exact ⟨2, _, _, by go_num, by omega, Lib.hid (HT2.out.setSure2 HB9.out true _ _ (by have h := HOWN9.out; rw [HQ1.out] at h ⊢; exact h)), Lib.hid (fun p hp => by cases p <;> first | (rw [upd_same]; rfl) | (rw [upd_ne _ _ (by decide)]; exact HSU.out _ (by have hp := hp; simp [idx] at hp ⊢)))⟩
                      case measure => simp [intOf]
                    · go_wp2_with fail
                      have hsu : sure2 = nowO S' := funext fun p => HSU.out p (by cases p <;> decide)
                      subst hsu
                      go_roundw
                      case rel => exact ⟨i + 1, o', S', s2, nowO S', rfl, by omega, by go_num, Lib.hid HT2.out.loop, HGI2⟩
                      case measure => simp [intOf]; omega
                · have HGI2 := Lib.hid (show GInv S' sure (75 * (i + 1) + 21 * sumG (l.take (i + 1))) by rw [HTK.out]; exact HG1.out.more (by omega))
                  go_wp2_with fail
                  go_loopw [89] (fun jx X => ∃ j : Nat, jx = .int .i64 (j : Int) ∧ j ≤ 2 ∧ Hid (GSt w1 X o' w1.heap.size g7 g9 g10 op S' s x' sure was')) (fun jx _ => 2 - (intOf jx).toNat)
                  case atStart => exact ⟨0, rfl, by omega, HT⟩
                  case round =>
                    obtain ⟨j, rfl, hj, HT2⟩ := hrel
                    have hjj : j = 0 ∨ j = 1 ∨ j = 2 := by omega
                    rcases hjj with rfl | rfl | rfl
                    · have hc := counts_any HT2.out.out.live false (HBIG.out false)
                      have HC := Lib.hid hc
                      clear hc
                      go_wp2_with fail
                      refine HC.out.mono ?_
                      rintro e w8 ⟨v8, rfl, hown8, hb8⟩
                      obtain ⟨a8, c8, rfl⟩ := (Reads.own hown8).shape
                      have HT8 := Lib.hid (HT2.out.below hb8)
                      have HB8 := Lib.hid hb8
                      have HOWN8 := Lib.hid hown8
                      obtain ⟨ax, cx, hxv⟩ := (HT2.out.rx false).shape
                      have hz8 := HT8.out.cellW false
                      rw [hxv] at hz8
                      have hbg := begins_any w8 _ _ _ _ (Reads.own hown8) (HT8.out.rx false) (HPRE.out false)
                      rw [hxv] at hbg
                      have HBG := Lib.hid hbg
                      have HXV := Lib.hid hxv
                      have HQQ := Lib.hid (show False → (countsO (S'.r false)).length = (was' false).length from fun h => (HLEN.out h false).symm)
                      obtain ⟨q1, hq1⟩ : ∃ z, (countsO (S'.r false)).length = z := ⟨_, rfl⟩
                      obtain ⟨q2, hq2⟩ : ∃ z, (was' false).length = z := ⟨_, rfl⟩
                      have HQ1 := Lib.hid hq1
                      have HQ2 := Lib.hid hq2
                      rw [hq1] at HQQ HBG ⊢
                      rw [hq2] at HQQ HBG hz8
                      clear hown8 hb8 hbg hxv hq1 hq2
                      replace hz8 : w8.cell? ⟨g10, 0, none⟩ = some (.slice ax q2 cx) := hz8
                      go_wp2_with fail
                      refine HBG.out.mono ?_
                      rintro e w9 ⟨rfl, hb9⟩
                      have HT9 := Lib.hid (HT8.out.below hb9)
                      have hz9 := HT9.out.cellW false
                      rw [HXV.out, HQ2.out] at hz9
                      replace hz9 : w9.cell? ⟨g10, 0, none⟩ = some (.slice ax q2 cx) := hz9
                      have hk9 : w9.cell? ⟨g9, 0, none⟩ = some (.int .i64 2) := HT9.out.cellO.1.trans (by rw [HKD.out])
                      have hs9 : w9.cell? ⟨g7, 0, none⟩ = some _ := HT9.out.cellS false
                      have hf9 : w9.frozen? ⟨g7, 0, none⟩ = false := cells_free HT9.out.c7 _
                      have HB9 := Lib.hid (bel_trans HB8.out hb9)
                      have HOWN9 := Lib.hid (own_below HOWN8.out hb9)
                      clear hb9
                      go_wp2_with fail
                      go_roundw
                      case rel => exact ⟨1, by go_num, by omega, HT9⟩
                      case measure => simp [intOf]
                    · have hc := counts_any HT2.out.out.live true (HBIG.out true)
                      have HC := Lib.hid hc
                      clear hc
                      go_wp2_with fail
                      refine HC.out.mono ?_
                      rintro e w8 ⟨v8, rfl, hown8, hb8⟩
                      obtain ⟨a8, c8, rfl⟩ := (Reads.own hown8).shape
                      have HT8 := Lib.hid (HT2.out.below hb8)
                      have HB8 := Lib.hid hb8
                      have HOWN8 := Lib.hid hown8
                      obtain ⟨ax, cx, hxv⟩ := (HT2.out.rx true).shape
                      have hz8 := HT8.out.cellW true
                      rw [hxv] at hz8
                      have hbg := begins_any w8 _ _ _ _ (Reads.own hown8) (HT8.out.rx true) (HPRE.out true)
                      rw [hxv] at hbg
                      have HBG := Lib.hid hbg
                      have HXV := Lib.hid hxv
                      have HQQ := Lib.hid (show False → (countsO (S'.r true)).length = (was' true).length from fun h => (HLEN.out h true).symm)
                      obtain ⟨q1, hq1⟩ : ∃ z, (countsO (S'.r true)).length = z := ⟨_, rfl⟩
                      obtain ⟨q2, hq2⟩ : ∃ z, (was' true).length = z := ⟨_, rfl⟩
                      have HQ1 := Lib.hid hq1
                      have HQ2 := Lib.hid hq2
                      rw [hq1] at HQQ HBG ⊢
                      rw [hq2] at HQQ HBG hz8
                      clear hown8 hb8 hbg hxv hq1 hq2
                      replace hz8 : w8.cell? ⟨g10, 1, none⟩ = some (.slice ax q2 cx) := hz8
                      go_wp2_with fail
                      refine HBG.out.mono ?_
                      rintro e w9 ⟨rfl, hb9⟩
                      have HT9 := Lib.hid (HT8.out.below hb9)
                      have hz9 := HT9.out.cellW true
                      rw [HXV.out, HQ2.out] at hz9
                      replace hz9 : w9.cell? ⟨g10, 1, none⟩ = some (.slice ax q2 cx) := hz9
                      have hk9 : w9.cell? ⟨g9, 0, none⟩ = some (.int .i64 2) := HT9.out.cellO.1.trans (by rw [HKD.out])
                      have hs9 : w9.cell? ⟨g7, 1, none⟩ = some _ := HT9.out.cellS true
                      have hf9 : w9.frozen? ⟨g7, 1, none⟩ = false := cells_free HT9.out.c7 _
                      have HB9 := Lib.hid (bel_trans HB8.out hb9)
                      have HOWN9 := Lib.hid (own_below HOWN8.out hb9)
                      clear hb9
                      go_wp2_with fail
                      go_roundw
                      case rel => exact ⟨2, by go_num, by omega, HT9⟩
                      case measure => simp [intOf]
                    · go_wp2_with fail
                      go_roundw
                      case rel => exact ⟨i + 1, o', S', s, sure, rfl, by omega, by go_num, Lib.hid HT2.out.loop, HGI2⟩
                      case measure => simp [intOf]; omega
              by_cases hk4 : op.kind = 4
              · have HKD := Lib.hid hk4
                have c0 : X.cell? ⟨g9, 0, none⟩ = some (.int .i64 4) := HT.out.cellO.1.trans (by rw [hk4])
                have c1 : X.cell? ⟨g9, 1, none⟩ = some (.int .i64 op.n) := HT.out.cellO.2.1
                obtain ⟨f, hfK, hl, hback⟩ := HT.out.call
                have HBK := Lib.hid hback
                have hn64 := bounds_i64 HOP.out.n
                have hmx : max op.n 0 ≤ 9223372036854775807 := by have := hn64.2; omega
                have hpw := out_power hl (max op.n 0) hmx
                have hg1 := HGI0.out.power (max op.n 0) hmx
                obtain ⟨S', hS'⟩ : ∃ z, { S0 with D := (Dk.power S0.D (max op.n 0)).2 } = z := ⟨_, rfl⟩
                rw [hS'] at hpw hg1
                have hrs : S'.r = S0.r := by rw [← hS']
                have HPW := Lib.hid hpw
                have HGI2 := Lib.hid (show GInv S' sure (75 * (i + 1) + 21 * sumG (l.take (i + 1))) by rw [HTK.out]; exact hg1.more (by omega))
                have HBIG := Lib.hid (fun p => hg1.big (by omega) p)
                have HPRE := Lib.hid (fun p => show was' p <+: nowO S' p by rw [HWE.out]; unfold nowO; rw [hrs]; exact List.prefix_refl _)
                have HLEN := Lib.hid (fun (h : False) p => show (was' p).length = (countsO (S'.r p)).length from h.elim)
                clear hback hl hfK hpw hg1 hS' hrs hk1 hk2 hk4 hk0 hkz hmx
                go_wp2_with fail
                refine HPW.out.mono ?_
                rintro e w5 ⟨rfl, h5⟩
                have HT := Lib.hid (HBK.out _ _ _ h5)
                clear h5
                go_wp2_with fail
                go_loopw [89] (fun jx X => ∃ j : Nat, jx = .int .i64 (j : Int) ∧ j ≤ 2 ∧ Hid (GSt w1 X o' w1.heap.size g7 g9 g10 op S' s x' sure was')) (fun jx _ => 2 - (intOf jx).toNat)
                case atStart => exact ⟨0, rfl, by omega, HT⟩
                case round =>
                  obtain ⟨j, rfl, hj, HT2⟩ := hrel
                  have hjj : j = 0 ∨ j = 1 ∨ j = 2 := by omega
                  rcases hjj with rfl | rfl | rfl
                  · have hc := counts_any HT2.out.out.live false (HBIG.out false)
                    have HC := Lib.hid hc
                    clear hc
                    go_wp2_with fail
                    refine HC.out.mono ?_
                    rintro e w8 ⟨v8, rfl, hown8, hb8⟩
                    obtain ⟨a8, c8, rfl⟩ := (Reads.own hown8).shape
                    have HT8 := Lib.hid (HT2.out.below hb8)
                    have HB8 := Lib.hid hb8
                    have HOWN8 := Lib.hid hown8
                    obtain ⟨ax, cx, hxv⟩ := (HT2.out.rx false).shape
                    have hz8 := HT8.out.cellW false
                    rw [hxv] at hz8
                    have hbg := begins_any w8 _ _ _ _ (Reads.own hown8) (HT8.out.rx false) (HPRE.out false)
                    rw [hxv] at hbg
                    have HBG := Lib.hid hbg
                    have HXV := Lib.hid hxv
                    have HQQ := Lib.hid (show False → (countsO (S'.r false)).length = (was' false).length from fun h => (HLEN.out h false).symm)
                    obtain ⟨q1, hq1⟩ : ∃ z, (countsO (S'.r false)).length = z := ⟨_, rfl⟩
                    obtain ⟨q2, hq2⟩ : ∃ z, (was' false).length = z := ⟨_, rfl⟩
                    have HQ1 := Lib.hid hq1
                    have HQ2 := Lib.hid hq2
                    rw [hq1] at HQQ HBG ⊢
                    rw [hq2] at HQQ HBG hz8
                    clear hown8 hb8 hbg hxv hq1 hq2
                    replace hz8 : w8.cell? ⟨g10, 0, none⟩ = some (.slice ax q2 cx) := hz8
                    go_wp2_with fail
                    refine HBG.out.mono ?_
                    rintro e w9 ⟨rfl, hb9⟩
                    have HT9 := Lib.hid (HT8.out.below hb9)
                    have hz9 := HT9.out.cellW false
                    rw [HXV.out, HQ2.out] at hz9
                    replace hz9 : w9.cell? ⟨g10, 0, none⟩ = some (.slice ax q2 cx) := hz9
                    have hk9 : w9.cell? ⟨g9, 0, none⟩ = some (.int .i64 4) := HT9.out.cellO.1.trans (by rw [HKD.out])
                    have hs9 : w9.cell? ⟨g7, 0, none⟩ = some _ := HT9.out.cellS false
                    have hf9 : w9.frozen? ⟨g7, 0, none⟩ = false := cells_free HT9.out.c7 _
                    have HB9 := Lib.hid (bel_trans HB8.out hb9)
                    have HOWN9 := Lib.hid (own_below HOWN8.out hb9)
                    clear hb9
                    go_wp2_with fail
                    go_roundw
                    case rel => exact ⟨1, by go_num, by omega, HT9⟩
                    case measure => simp [intOf]
                  · have hc := counts_any HT2.out.out.live true (HBIG.out true)
                    have HC := Lib.hid hc
                    clear hc
                    go_wp2_with fail
                    refine HC.out.mono ?_
                    rintro e w8 ⟨v8, rfl, hown8, hb8⟩
                    obtain ⟨a8, c8, rfl⟩ := (Reads.own hown8).shape
                    have HT8 := Lib.hid (HT2.out.below hb8)
                    have HB8 := Lib.hid hb8
                    have HOWN8 := Lib.hid hown8
                    obtain ⟨ax, cx, hxv⟩ := (HT2.out.rx true).shape
                    have hz8 := HT8.out.cellW true
                    rw [hxv] at hz8
                    have hbg := begins_any w8 _ _ _ _ (Reads.own hown8) (HT8.out.rx true) (HPRE.out true)
                    rw [hxv] at hbg
                    have HBG := Lib.hid hbg
                    have HXV := Lib.hid hxv
                    have HQQ := Lib.hid (show False → (countsO (S'.r true)).length = (was' true).length from fun h => (HLEN.out h true).symm)
                    obtain ⟨q1, hq1⟩ : ∃ z, (countsO (S'.r true)).length = z := ⟨_, rfl⟩
                    obtain ⟨q2, hq2⟩ : ∃ z, (was' true).length = z := ⟨_, rfl⟩
                    have HQ1 := Lib.hid hq1
                    have HQ2 := Lib.hid hq2
                    rw [hq1] at HQQ HBG ⊢
                    rw [hq2] at HQQ HBG hz8
                    clear hown8 hb8 hbg hxv hq1 hq2
                    replace hz8 : w8.cell? ⟨g10, 1, none⟩ = some (.slice ax q2 cx) := hz8
                    go_wp2_with fail
                    refine HBG.out.mono ?_
                    rintro e w9 ⟨rfl, hb9⟩
                    have HT9 := Lib.hid (HT8.out.below hb9)
                    have hz9 := HT9.out.cellW true
                    rw [HXV.out, HQ2.out] at hz9
                    replace hz9 : w9.cell? ⟨g10, 1, none⟩ = some (.slice ax q2 cx) := hz9
                    have hk9 : w9.cell? ⟨g9, 0, none⟩ = some (.int .i64 4) := HT9.out.cellO.1.trans (by rw [HKD.out])
                    have hs9 : w9.cell? ⟨g7, 1, none⟩ = some _ := HT9.out.cellS true
                    have hf9 : w9.frozen? ⟨g7, 1, none⟩ = false := cells_free HT9.out.c7 _
                    have HB9 := Lib.hid (bel_trans HB8.out hb9)
                    have HOWN9 := Lib.hid (own_below HOWN8.out hb9)
                    clear hb9
                    go_wp2_with fail
                    go_roundw
                    case rel => exact ⟨2, by go_num, by omega, HT9⟩
                    case measure => simp [intOf]
                  · go_wp2_with fail
                    go_roundw
                    case rel => exact ⟨i + 1, o', S', s, sure, rfl, by omega, by go_num, Lib.hid HT2.out.loop, HGI2⟩
                    case measure => simp [intOf]; omega
              by_cases hk5 : op.kind = 5
              · have HKD := Lib.hid hk5
                have c0 : X.cell? ⟨g9, 0, none⟩ = some (.int .i64 5) := HT.out.cellO.1.trans (by rw [hk5])
                have c1 : X.cell? ⟨g9, 1, none⟩ = some (.int .i64 op.n) := HT.out.cellO.2.1
                obtain ⟨f, hfK, hl, hback⟩ := HT.out.call
                have HBK := Lib.hid hback
                obtain ⟨rs, D1, D2, ho0, ho1, hv5, hg1, hg2⟩ := HGI0.out.crash (by omega) op.n op.m
                have HO0 := Lib.hid ho0
                have HO1 := Lib.hid ho1
                have HV5 := Lib.hid hv5
                have HLD := Lib.hid (lf_crash hl.disk op.n op.m)
                obtain ⟨S', hS'⟩ : ∃ z, openSt D2 rs 2 0 = z := ⟨_, rfl⟩
                rw [hS'] at hg1 hg2
                have HS' := Lib.hid hS'
                have HGI2 := Lib.hid (show GInv S' sure (75 * (i + 1) + 21 * sumG (l.take (i + 1))) by rw [HTK.out]; exact hg1.more (by omega))
                have HBIG := Lib.hid (fun p => hg1.big (by omega) p)
                have HG2 := Lib.hid hg2
                clear hback hl hfK ho0 ho1 hv5 hg1 hg2 hS' hk1 hk2 hk4 hk5 hk0 hkz
                go_wp2_with fail
                refine HLD.out.mono ?_
                rintro e w5 ⟨rfl, h5⟩
                have H5 := Lib.hid h5
                clear h5
                go_wp2_with fail
                refine (oopen_recs f w5 w1.heap.size _ D1 D2 H5.out rs HV5.out HO0.out HO1.out).mono ?_
                rintro e w6 ⟨o', rfl, h6⟩
                rw [HS'.out] at h6
                have HT6 := Lib.hid (HBK.out _ _ _ h6)
                clear h6
                obtain ⟨sa0, sc0, hs0⟩ := (HT6.out.rs false).shape
                obtain ⟨sa1, sc1, hs1⟩ := (HT6.out.rs true).shape
                obtain ⟨n0, hn0⟩ : ∃ z, (sure false).length = z := ⟨_, rfl⟩
                obtain ⟨n1, hn1⟩ : ∃ z, (sure true).length = z := ⟨_, rfl⟩
                rw [hn0] at hs0
                rw [hn1] at hs1
                have s7 : w6.cell? ⟨g7, 0, none⟩ = some (.slice sa0 n0 sc0) := by rw [← hs0]; exact HT6.out.cellS false
                have s8 : w6.cell? ⟨g7, 1, none⟩ = some (.slice sa1 n1 sc1) := by rw [← hs1]; exact HT6.out.cellS true
                have s9 : w6.cell? ⟨g10, 0, none⟩ = some (x' false) := HT6.out.cellW false
                have s10 : w6.cell? ⟨g10, 1, none⟩ = some (x' true) := HT6.out.cellW true
                have f9 : w6.frozen? ⟨g10, 0, none⟩ = false := cells_free HT6.out.c10 _
                have f10 : w6.frozen? ⟨g10, 1, none⟩ = false := cells_free HT6.out.c10 _
                obtain ⟨x', was', hx2, hw2, hT⟩ := HT6.out.copy2 hs0 hs1
                have HT := Lib.hid hT
                have HPRE := Lib.hid (fun p => show was' p <+: nowO S' p by rw [hw2]; exact HG2.out p)
                have HLEN := Lib.hid (fun (h : False) p => show (was' p).length = (countsO (S'.r p)).length from h.elim)
                clear hT hx2 hw2 hs0 hs1 hn0 hn1
                unfold ptr
                go_wp2_with fail
                go_loopw [89] (fun jx X => ∃ j : Nat, jx = .int .i64 (j : Int) ∧ j ≤ 2 ∧ Hid (GSt w1 X o' w1.heap.size g7 g9 g10 op S' s x' sure was')) (fun jx _ => 2 - (intOf jx).toNat)
                case atStart => exact ⟨0, rfl, by omega, HT⟩
                case round =>
                  obtain ⟨j, rfl, hj, HT2⟩ := hrel
                  have hjj : j = 0 ∨ j = 1 ∨ j = 2 := by omega
                  rcases hjj with rfl | rfl | rfl
                  · have hc := counts_any HT2.out.out.live false (HBIG.out false)
                    have HC := Lib.hid hc
                    clear hc
                    go_wp2_with fail
                    refine HC.out.mono ?_
                    rintro e w8 ⟨v8, rfl, hown8, hb8⟩
                    obtain ⟨a8, c8, rfl⟩ := (Reads.own hown8).shape
                    have HT8 := Lib.hid (HT2.out.below hb8)
                    have HB8 := Lib.hid hb8
                    have HOWN8 := Lib.hid hown8
                    obtain ⟨ax, cx, hxv⟩ := (HT2.out.rx false).shape
                    have hz8 := HT8.out.cellW false
                    rw [hxv] at hz8
                    have hbg := begins_any w8 _ _ _ _ (Reads.own hown8) (HT8.out.rx false) (HPRE.out false)
                    rw [hxv] at hbg
                    have HBG := Lib.hid hbg
                    have HXV := Lib.hid hxv
                    have HQQ := Lib.hid (show False → (countsO (S'.r false)).length = (was' false).length from fun h => (HLEN.out h false).symm)
                    obtain ⟨q1, hq1⟩ : ∃ z, (countsO (S'.r false)).length = z := ⟨_, rfl⟩
                    obtain ⟨q2, hq2⟩ : ∃ z, (was' false).length = z := ⟨_, rfl⟩
                    have HQ1 := Lib.hid hq1
                    have HQ2 := Lib.hid hq2
                    rw [hq1] at HQQ HBG ⊢
                    rw [hq2] at HQQ HBG hz8
                    clear hown8 hb8 hbg hxv hq1 hq2
                    replace hz8 : w8.cell? ⟨g10, 0, none⟩ = some (.slice ax q2 cx) := hz8
                    go_wp2_with fail
                    refine HBG.out.mono ?_
                    rintro e w9 ⟨rfl, hb9⟩
                    have HT9 := Lib.hid (HT8.out.below hb9)
                    have hz9 := HT9.out.cellW false
                    rw [HXV.out, HQ2.out] at hz9
                    replace hz9 : w9.cell? ⟨g10, 0, none⟩ = some (.slice ax q2 cx) := hz9
                    have hk9 : w9.cell? ⟨g9, 0, none⟩ = some (.int .i64 5) := HT9.out.cellO.1.trans (by rw [HKD.out])
                    have hs9 : w9.cell? ⟨g7, 0, none⟩ = some _ := HT9.out.cellS false
                    have hf9 : w9.frozen? ⟨g7, 0, none⟩ = false := cells_free HT9.out.c7 _
                    have HB9 := Lib.hid (bel_trans HB8.out hb9)
                    have HOWN9 := Lib.hid (own_below HOWN8.out hb9)
                    clear hb9
                    go_wp2_with fail
                    go_roundw
                    case rel => exact ⟨1, by go_num, by omega, HT9⟩
                    case measure => simp [intOf]
                  · have hc := counts_any HT2.out.out.live true (HBIG.out true)
                    have HC := Lib.hid hc
                    clear hc
                    go_wp2_with fail
                    refine HC.out.mono ?_
                    rintro e w8 ⟨v8, rfl, hown8, hb8⟩
                    obtain ⟨a8, c8, rfl⟩ := (Reads.own hown8).shape
                    have HT8 := Lib.hid (HT2.out.below hb8)
                    have HB8 := Lib.hid hb8
                    have HOWN8 := Lib.hid hown8
                    obtain ⟨ax, cx, hxv⟩ := (HT2.out.rx true).shape
                    have hz8 := HT8.out.cellW true
                    rw [hxv] at hz8
                    have hbg := begins_any w8 _ _ _ _ (Reads.own hown8) (HT8.out.rx true) (HPRE.out true)
                    rw [hxv] at hbg
                    have HBG := Lib.hid hbg
                    have HXV := Lib.hid hxv
                    have HQQ := Lib.hid (show False → (countsO (S'.r true)).length = (was' true).length from fun h => (HLEN.out h true).symm)
                    obtain ⟨q1, hq1⟩ : ∃ z, (countsO (S'.r true)).length = z := ⟨_, rfl⟩
                    obtain ⟨q2, hq2⟩ : ∃ z, (was' true).length = z := ⟨_, rfl⟩
                    have HQ1 := Lib.hid hq1
                    have HQ2 := Lib.hid hq2
                    rw [hq1] at HQQ HBG ⊢
                    rw [hq2] at HQQ HBG hz8
                    clear hown8 hb8 hbg hxv hq1 hq2
                    replace hz8 : w8.cell? ⟨g10, 1, none⟩ = some (.slice ax q2 cx) := hz8
                    go_wp2_with fail
                    refine HBG.out.mono ?_
                    rintro e w9 ⟨rfl, hb9⟩
                    have HT9 := Lib.hid (HT8.out.below hb9)
                    have hz9 := HT9.out.cellW true
                    rw [HXV.out, HQ2.out] at hz9
                    replace hz9 : w9.cell? ⟨g10, 1, none⟩ = some (.slice ax q2 cx) := hz9
                    have hk9 : w9.cell? ⟨g9, 0, none⟩ = some (.int .i64 5) := HT9.out.cellO.1.trans (by rw [HKD.out])
                    have hs9 : w9.cell? ⟨g7, 1, none⟩ = some _ := HT9.out.cellS true
                    have hf9 : w9.frozen? ⟨g7, 1, none⟩ = false := cells_free HT9.out.c7 _
                    have HB9 := Lib.hid (bel_trans HB8.out hb9)
                    have HOWN9 := Lib.hid (own_below HOWN8.out hb9)
                    clear hb9
                    go_wp2_with fail
                    go_roundw
                    case rel => exact ⟨2, by go_num, by omega, HT9⟩
                    case measure => simp [intOf]
                  · go_wp2_with fail
                    go_roundw
                    case rel => exact ⟨i + 1, o', S', s, sure, rfl, by omega, by go_num, Lib.hid HT2.out.loop, HGI2⟩
                    case measure => simp [intOf]; omega
              · have HKD := Lib.hid (show op.kind = op.kind from rfl)
                have c0 : X.cell? ⟨g9, 0, none⟩ = some (.int .i64 op.kind) := HT.out.cellO.1
                have HGI2 := Lib.hid (show GInv S0 sure (75 * (i + 1) + 21 * sumG (l.take (i + 1))) by rw [HTK.out]; exact HGI0.out.more (by omega))
                have HBIG := Lib.hid (fun p => HGI0.out.big (by omega) p)
                have HPRE := Lib.hid (fun p => show was' p <+: nowO S0 p by rw [HWE.out]; exact List.prefix_refl _)
                have HLEN := Lib.hid (fun (_ : False) p => show (was' p).length = (countsO (S0.r p)).length by rw [HWE.out]; rfl)
                obtain ⟨S', hS'⟩ : ∃ z, S0 = z := ⟨_, rfl⟩
                rw [hS'] at HT HGI2 HBIG HPRE HLEN
                clear hS'
                go_wp2_with fail
                go_loopw [89] (fun jx X => ∃ j : Nat, jx = .int .i64 (j : Int) ∧ j ≤ 2 ∧ Hid (GSt w1 X o' w1.heap.size g7 g9 g10 op S' s x' sure was')) (fun jx _ => 2 - (intOf jx).toNat)
                case atStart => exact ⟨0, rfl, by omega, HT⟩
                case round =>
                  obtain ⟨j, rfl, hj, HT2⟩ := hrel
                  have hjj : j = 0 ∨ j = 1 ∨ j = 2 := by omega
                  rcases hjj with rfl | rfl | rfl
                  · have hc := counts_any HT2.out.out.live false (HBIG.out false)
                    have HC := Lib.hid hc
                    clear hc
                    go_wp2_with fail
                    refine HC.out.mono ?_
                    rintro e w8 ⟨v8, rfl, hown8, hb8⟩
                    obtain ⟨a8, c8, rfl⟩ := (Reads.own hown8).shape
                    have HT8 := Lib.hid (HT2.out.below hb8)
                    have HB8 := Lib.hid hb8
                    have HOWN8 := Lib.hid hown8
                    obtain ⟨ax, cx, hxv⟩ := (HT2.out.rx false).shape
                    have hz8 := HT8.out.cellW false
                    rw [hxv] at hz8
                    have hbg := begins_any w8 _ _ _ _ (Reads.own hown8) (HT8.out.rx false) (HPRE.out false)
                    rw [hxv] at hbg
                    have HBG := Lib.hid hbg
                    have HXV := Lib.hid hxv
                    have HQQ := Lib.hid (show False → (countsO (S'.r false)).length = (was' false).length from fun h => (HLEN.out h false).symm)
                    obtain ⟨q1, hq1⟩ : ∃ z, (countsO (S'.r false)).length = z := ⟨_, rfl⟩
                    obtain ⟨q2, hq2⟩ : ∃ z, (was' false).length = z := ⟨_, rfl⟩
                    have HQ1 := Lib.hid hq1
                    have HQ2 := Lib.hid hq2
                    rw [hq1] at HQQ HBG ⊢
                    rw [hq2] at HQQ HBG hz8
                    clear hown8 hb8 hbg hxv hq1 hq2
                    replace hz8 : w8.cell? ⟨g10, 0, none⟩ = some (.slice ax q2 cx) := hz8
                    go_wp2_with fail
                    refine HBG.out.mono ?_
                    rintro e w9 ⟨rfl, hb9⟩
                    have HT9 := Lib.hid (HT8.out.below hb9)
                    have hz9 := HT9.out.cellW false
                    rw [HXV.out, HQ2.out] at hz9
                    replace hz9 : w9.cell? ⟨g10, 0, none⟩ = some (.slice ax q2 cx) := hz9
                    have hk9 : w9.cell? ⟨g9, 0, none⟩ = some (.int .i64 op.kind) := HT9.out.cellO.1
                    have hs9 : w9.cell? ⟨g7, 0, none⟩ = some _ := HT9.out.cellS false
                    have hf9 : w9.frozen? ⟨g7, 0, none⟩ = false := cells_free HT9.out.c7 _
                    have HB9 := Lib.hid (bel_trans HB8.out hb9)
                    have HOWN9 := Lib.hid (own_below HOWN8.out hb9)
                    clear hb9
                    go_wp2_with fail
                    go_roundw
                    case rel => exact ⟨1, by go_num, by omega, HT9⟩
                    case measure => simp [intOf]
                  · have hc := counts_any HT2.out.out.live true (HBIG.out true)
                    have HC := Lib.hid hc
                    clear hc
                    go_wp2_with fail
                    refine HC.out.mono ?_
                    rintro e w8 ⟨v8, rfl, hown8, hb8⟩
                    obtain ⟨a8, c8, rfl⟩ := (Reads.own hown8).shape
                    have HT8 := Lib.hid (HT2.out.below hb8)
                    have HB8 := Lib.hid hb8
                    have HOWN8 := Lib.hid hown8
                    obtain ⟨ax, cx, hxv⟩ := (HT2.out.rx true).shape
                    have hz8 := HT8.out.cellW true
                    rw [hxv] at hz8
                    have hbg := begins_any w8 _ _ _ _ (Reads.own hown8) (HT8.out.rx true) (HPRE.out true)
                    rw [hxv] at hbg
                    have HBG := Lib.hid hbg
                    have HXV := Lib.hid hxv
                    have HQQ := Lib.hid (show False → (countsO (S'.r true)).length = (was' true).length from fun h => (HLEN.out h true).symm)
                    obtain ⟨q1, hq1⟩ : ∃ z, (countsO (S'.r true)).length = z := ⟨_, rfl⟩
                    obtain ⟨q2, hq2⟩ : ∃ z, (was' true).length = z := ⟨_, rfl⟩
                    have HQ1 := Lib.hid hq1
                    have HQ2 := Lib.hid hq2
                    rw [hq1] at HQQ HBG ⊢
                    rw [hq2] at HQQ HBG hz8
                    clear hown8 hb8 hbg hxv hq1 hq2
                    replace hz8 : w8.cell? ⟨g10, 1, none⟩ = some (.slice ax q2 cx) := hz8
                    go_wp2_with fail
                    refine HBG.out.mono ?_
                    rintro e w9 ⟨rfl, hb9⟩
                    have HT9 := Lib.hid (HT8.out.below hb9)
                    have hz9 := HT9.out.cellW true
                    rw [HXV.out, HQ2.out] at hz9
                    replace hz9 : w9.cell? ⟨g10, 1, none⟩ = some (.slice ax q2 cx) := hz9
                    have hk9 : w9.cell? ⟨g9, 0, none⟩ = some (.int .i64 op.kind) := HT9.out.cellO.1
                    have hs9 : w9.cell? ⟨g7, 1, none⟩ = some _ := HT9.out.cellS true
                    have hf9 : w9.frozen? ⟨g7, 1, none⟩ = false := cells_free HT9.out.c7 _
                    have HB9 := Lib.hid (bel_trans HB8.out hb9)
                    have HOWN9 := Lib.hid (own_below HOWN8.out hb9)
                    clear hb9
                    go_wp2_with fail
                    go_roundw
                    case rel => exact ⟨2, by go_num, by omega, HT9⟩
                    case measure => simp [intOf]
                  · go_wp2_with fail
                    go_roundw
                    case rel => exact ⟨i + 1, o', S', s, sure, rfl, by omega, by go_num, Lib.hid HT2.out.loop, HGI2⟩
                    case measure => simp [intOf]; omega
      · have hik : ¬ (i : Int) < (m : Int) := by omega
        go_wp2_with fail
        refine (oworks_any _).mono ?_
        rintro e w4 ⟨rfl, hb⟩
        have HB := Lib.hid (bel_trans HB1.out (HGL2.out.out.live.below hb).old.bel)
        clear hb
        go_wp2_with fail
        go_ret
        exact ⟨rfl, HB.out⟩

end Go.Proofs.Ytllecjhfbojgcaa
