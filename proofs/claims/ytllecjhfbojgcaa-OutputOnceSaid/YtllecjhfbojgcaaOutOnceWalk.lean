/-
  The walk through OutputOnce. Written by wip/mkonce.py from wip/once.part.
-/
import Derived.Test.YtllecjhfbojgcaaOutOnceP
import Derived.Test.YtllecjhfbojgcaaOutTellE
import Derived.Maps.AppendAt
namespace Go.Proofs.Ytllecjhfbojgcaa
open Go.RowKit
set_option maxRecDepth 20000

theorem outk_append {fr : Fr} {w w' : World} {o d : Nat} {S : OSt} {v v' : Value} {B : Nat} (h : OutK fr w o d S (fun k => v.ownBlock = some k)) (hg : w.grownBy w' v.ownBlock) (hv : ∀ k, v.ownBlock = some k → ¬ fr.K k) (hat : v'.ownBlock = v.ownBlock ∨ v'.ownBlock = some w.heap.size) (hB : ∀ k, v'.ownBlock = some k → B ≤ k ∧ k < w'.heap.size) : OutK fr w' o d S (fun k => v'.ownBlock = some k) := by
  have ho : Only (fun k => v.ownBlock = some k) w w' := ⟨hg.os, hg.tape, hg.output, hg.size, fun k hk hn => hg.block k hk (fun e => hn e.symm)⟩
  refine (h.only ho (fun k hk => ⟨hk, hv k hk⟩)).less (fun k hk => ?_)
  rcases hat with e | e
  · exact .inl (e.symm.trans hk)
  · have := hB k hk
    rw [e] at hk
    simp only [Option.some.injEq] at hk
    exact .inr ⟨by omega, this.2⟩

set_option maxHeartbeats 32000000 in
set_option maxRecDepth 100000 in
theorem outputOnce_walk (v : Value) (l : List (List OutX × Value)) (u : Value) (ms : List Bool) (w : World) (hr : Reads w v l.length (rowCells l)) (hl : ∀ o ∈ l, RowIn w o) (hr2 : Reads w u ms.length (boolCells ms)) :
    Calls Try.prog 11 #[v, u] w fun e w' => e = .returned (.bool true) ∧ Below w.heap.size w w' := by
  have hlen := hr.lenLe
  have hlen2 := hr2.lenLe
  unfold maxLen at hlen hlen2
  obtain ⟨i0, hi0, hz0, hz1, hz2⟩ := info_parts infoOut
  have HR := Lib.hid hr
  have HL := Lib.hid hl
  have HR2 := Lib.hid hr2
  obtain ⟨va, vc, rfl⟩ := hr.shape
  obtain ⟨ua, uc, rfl⟩ := hr2.shape
  obtain ⟨m, hm⟩ : ∃ m, l.length = m := ⟨_, rfl⟩
  have HM := Lib.hid hm
  obtain ⟨k, hk⟩ : ∃ m, ms.length = m := ⟨_, rfl⟩
  have HMK := Lib.hid hk
  rw [hm] at hlen HR ⊢
  rw [hk] at hlen2 HR2 ⊢
  clear hr hl hr2 hm hk
  by_cases hbig : 50 < m
  · have hb1 : (50 : Int) < (m : Int) := by omega
    go_enter Try.func11, Try.ntmps11
    go_wp2_with fail
    refine (oworks_any _).mono ?_
    rintro e w1 ⟨rfl, hb⟩
    go_wp2_with fail
    go_ret
    exact ⟨rfl, hb⟩
  · have hb1 : ¬ (50 : Int) < (m : Int) := by omega
    go_enter Try.func11, Try.ntmps11
    go_wp2_with fail
    refine (live_new 4194304 w (by decide)).mono ?_
    rintro e w1 ⟨rfl, h⟩
    have H := Lib.hid (show Live w w1 w.heap.size (Dk.fresh 4194304) from h)
    clear h
    unfold ptr
    go_wp2_with fail
    refine (oopen_fresh (Fr.all w) w1 w.heap.size 4194304 H.out.frame).mono ?_
    rintro e w2 ⟨o, rfl, h⟩
    have H2 := Lib.hid (show OutLive (Fr.all w) w2 o w.heap.size out0 from h)
    clear h
    unfold ptr
    go_wp2_with fail
    refine (omark_any H2.out ((open_fit _ rfl).mono (Nat.zero_le 10)) (by omega) 1 (by unfold Cl.In64; omega)).mono ?_
    rintro e w3 ⟨rfl, h⟩
    obtain ⟨hs1, hs2⟩ := once_start
    rw [hs1]
    have H3 := Lib.hid (h.keep.less (K' := fun k => (Value.slice none 0 0).ownBlock = some k) (fun k hk => by simp [Value.ownBlock] at hk))
    have HS := Lib.hid hs2
    clear h hs1 hs2
    go_wp2_with fail
    go_loopw [9, 10, 34] (fun vw vl ix wr => ∃ (i : Nat) (S : OSt) (last : Int) (want : List OutX), i ≤ m ∧ ix = .int .i64 (i : Int) ∧ vl = .int .i64 last ∧ Hid (OutK (Fr.all w) wr o w.heap.size S (fun k => vw.ownBlock = some k)) ∧ Hid (Once S last want i) ∧ Hid (wr.ownsRow w.heap.size 84 2 vw want.length (outCells want))) (fun _ _ ix _ => m - (intOf ix).toNat)
    case atStart => exact ⟨0, _, 1, [], Nat.zero_le _, rfl, rfl, H3, HS, Lib.hid (World.ownsRow_nil _ _ _ _)⟩
    case round =>
      obtain ⟨i, S, last, want, hi, rfl, rfl, HK, HO, HOW⟩ := hrel
      by_cases hlt : i < m
      · obtain ⟨x, hx⟩ : ∃ x, l[i]? = some x := ⟨l[i]'(by rw [HM.out]; omega), by simp⟩
        have hxr := HL.out x (List.mem_of_getElem? hx)
        obtain ⟨xl, xv⟩ := x
        obtain ⟨b, ob, cap, hv, hcap, hcm, hblt, hcells⟩ := HR.out.some (by omega)
        cases hv
        have hbl : Below w.heap.size w wr := HK.out.old.bel
        have r0 := (World.cell?_of_block (hbl.block b hblt)).trans (hcells i xv (by unfold rowCells; rw [List.getElem?_map, hx]; rfl))
        have hik : (i : Int) < (m : Int) := by omega
        have hxrd : Reads w xv xl.length (outCells xl) := hxr.rd
        have HXR := Lib.hid hxrd
        have HXI := Lib.hid (show OIn xl from hxr.i)
        have hxl := hxrd.lenLe
        unfold maxLen at hxl
        obtain ⟨xa, xc, hxv⟩ := hxrd.shape
        clear hxrd hxr
        subst hxv
        obtain ⟨n, hn⟩ : ∃ n, xl.length = n := ⟨_, rfl⟩
        have HN := Lib.hid hn
        rw [hn] at r0 HXR hxl
        obtain ⟨vwa, vwc, rfl⟩ := (Reads.own HOW.out).shape
        obtain ⟨q, hq⟩ : ∃ n, want.length = n := ⟨_, rfl⟩
        have HQ := Lib.hid hq
        rw [hq] at HK HOW ⊢
        clear hx hcells hbl hn hq
        by_cases h500 : 500 < n
        · have h5 : (500 : Int) < (n : Int) := by omega
          go_wp2_with fail
          refine (oworks_any _).mono ?_
          rintro e w4 ⟨rfl, hb⟩
          have HB := Lib.hid (HK.out.live.below hb).old.bel
          clear hb
          go_wp2_with fail
          go_ret
          exact ⟨rfl, HB.out⟩
        · have h5 : ¬ (500 : Int) < (n : Int) := by omega
          have HST := Lib.hid (HO.out.step (by omega) xl (by rw [HN.out]; omega) HXI.out)
          obtain ⟨f, hfK, hfw, hlv, hback⟩ := HK.out.callK
          have HFK := Lib.hid hfK
          have HFW := Lib.hid hfw
          have HBK := Lib.hid hback
          have hrx : ∀ X, Since (Fr.all w) X → Reads X (.slice xa n xc) n (outCells xl) := fun X hX => by
            rcases HXR.out with ⟨a', c', h1, h2, h3⟩ | ⟨b', o', c', h1, h2, h3, h4, h5⟩
            · exact .inl ⟨a', c', h1, h2, h3⟩
            · exact .inr ⟨b', o', c', h1, h2, h3, Nat.lt_of_lt_of_le h4 hX.size, fun j y hj => (World.cell?_of_block (hX.block b' h4)).trans (h5 j y hj)⟩
          have HRX := Lib.hid hrx
          have htl := otell_e hlv (HO.out.fit (by omega)) (by omega) false ((i : Int) + 2) (by unfold Cl.In64; omega) (.slice xa n xc) xl (by rw [HN.out]; exact hrx _ HK.out.old) (fun g hg h0 => hfK g (.inl (by
            rcases HXR.out with ⟨a', c', h1, h2, h3⟩ | ⟨b', o', c', h1, h2, h3, h4, h5⟩
            · rw [HN.out] at h0; omega
            · cases h1
              simp only [Value.ownBlock, Option.some.injEq] at hg
              subst hg
              exact h4))) HXI.out (by rw [HN.out]; omega)
          rw [HST.out.e1] at htl
          have HTL := Lib.hid htl
          clear hfK hfw hlv hback hrx htl
          unfold ptr at HTL
          go_wp2_with fail
          refine HTL.out.mono ?_
          rintro e w4 ⟨rfl, h4⟩
          have H4 := Lib.hid h4
          clear h4
          have hmk : (i < k ∧ ms[i]? = some true) ∨ (i < k ∧ ms[i]? = some false) ∨ ¬ i < k := by
            by_cases h : i < k
            · obtain ⟨y, hy⟩ : ∃ x, ms[i]? = some x := ⟨ms[i]'(by rw [HMK.out]; omega), by simp⟩
              cases y
              · exact .inr (.inl ⟨h, hy⟩)
              · exact .inl ⟨h, hy⟩
            · exact .inr (.inr h)
          have hkeep : ∀ X, Since f X → X.ownsRow w.heap.size 84 2 (.slice vwa q vwc) q (outCells want) := fun X hX => own_kept HOW.out (fun g hg => by rw [← HFW.out]; exact hX.block g (HFK.out g (.inr hg)))
          have HKP := Lib.hid hkeep
          clear hkeep
          have hcutc : ((S.tell false ((i : Int) + 2) xl).2.cut last).1 = 0 := HST.out.e4
          have hcut := ocut_any H4.out (by have := HST.out.fit1.m; omega) (fun p => by have := HST.out.fit1.n p; omega) HST.out.hL last
          rw [hcutc] at hcut
          have HCUT := Lib.hid hcut
          clear hcut hcutc
          rcases hmk with ⟨hik2, hmi⟩ | ⟨hik2, hmi⟩ | hik2
          · have hikk : (i : Int) < (k : Int) := by omega
            obtain ⟨b2, ob2, cap2, hv2, hcap2, hcm2, hblt2, hcells2⟩ := HR2.out.some (by omega)
            cases hv2
            have rb := (World.cell?_of_block ((HBK.out _ _ _ H4.out).old.bel.block b2 hblt2)).trans (hcells2 i (.bool true) (by unfold boolCells; rw [List.getElem?_map, hmi]; rfl))
            clear hcells2 hmi
            go_wp2_with fail
            have hmm := omark_any H4.out HST.out.fit1 (by omega) ((i : Int) + 2) (by unfold Cl.In64; omega)
            rw [HST.out.e2] at hmm
            refine hmm.mono ?_
            clear hmm
            rintro e w5 ⟨rfl, h5⟩
            have H5 := Lib.hid h5
            clear h5
            go_wp2_with fail
            have hmm := omark_any H5.out HST.out.fit2 (by omega) ((i : Int) + 2) (by unfold Cl.In64; omega)
            rw [HST.out.e3] at hmm
            refine hmm.mono ?_
            clear hmm
            rintro e w6 ⟨rfl, h6⟩
            have H6 := Lib.hid h6
            have hk6 := HBK.out _ _ _ h6
            have ho6 := HKP.out _ h6.old
            have HK6 := Lib.hid hk6
            have HO6 := Lib.hid ho6
            have hx6 := HRX.out _ hk6.old
            have HX6 := Lib.hid hx6
            clear h6 hk6 ho6 hx6
            cases xa with
            | none =>
              have hn0 : n = 0 := by
                rcases HXR.out with ⟨_, _, h1, h2, h3⟩ | ⟨b, o, k, h1, -⟩
                · exact h2
                · cases h1
              subst hn0
              have hxl0 : xl = [] := List.eq_nil_of_length_eq_zero HN.out
              obtain ⟨hca, hcb⟩ := own_caps HO6.out
              have hap := fun ty => oappend_none (P := Try.prog) (t := 73) (ty := ty) w6 Try.underlying73 hi0 hz0 vwa q vwc hca hcb xc
              have hO := HST.out.st3
              rw [hxl0, List.append_nil, ← hxl0] at hO
              have hK := HK6.out
              have how : w6.ownsRow w.heap.size 84 2 (.slice vwa q vwc) want.length (outCells want) := by rw [HQ.out]; exact HO6.out
              cases vwa with
              | none =>
                obtain ⟨rfl, rfl⟩ := hcb rfl
                clear hca hcb hxl0
                go_wp2_with fail
                have HK := Lib.hid hK
                have HO := Lib.hid hO
                have HOW := Lib.hid how
                clear hK hO how
                have hlive := HK.out.live
                have hc := counts_any hlive false (by rw [HO.out.rows]; have := HO.out.wl; omega)
                rw [HO.out.counts] at hc
                have HC := Lib.hid hc
                have HM1 := Lib.hid (fun (X : World) (hX : Below w6.heap.size w6 X) => marked_any (hlive.below hX) true)
                clear hc hlive
                go_wp2_with fail
                refine HC.out.mono ?_
                rintro e w8 ⟨v8, rfl, hown8, hb8⟩
                have hr8 := Reads.own hown8
                obtain ⟨a8, c8, rfl⟩ := hr8.shape
                have HB8 := Lib.hid hb8
                have HR8 := Lib.hid hr8
                have HR9 := Lib.hid ((Reads.own HOW.out).below hb8)
                obtain ⟨a9, c9, hv9⟩ := (Reads.own HOW.out).shape
                clear hown8 hb8 hr8
                first | subst hv9 | clear hv9
                go_wp2_with fail
                refine (oequal_same w8 _ _ _ HR8.out HR9.out).mono ?_
                rintro e w9 ⟨rfl, hb9⟩
                have HB9 := Lib.hid (bel_trans HB8.out hb9)
                clear hb9
                go_wp2_with fail
                have hm := HM1.out w9 HB9.out
                rw [HO.out.mark] at hm
                refine hm.mono ?_
                clear hm
                rintro e w10 ⟨rfl, hb10⟩
                have HB10 := Lib.hid (bel_trans HB9.out hb10)
                clear hb10
                have HK10 := Lib.hid ((HK.out.grow HB10.out).less (K' := fun k => Value.ownBlock _ = some k) (fun k hk => .inl hk))
                have HOW10 := Lib.hid (own_below HOW.out HB10.out)
                go_wp2_with fail
                go_roundw
                case rel => exact ⟨i + 1, _, _, _, by omega, by go_num, rfl, HK10, HO, HOW10⟩
                case measure => simp [intOf]; omega
              | some ad5 =>
                clear hcb hxl0
                go_wp2_with fail
                have HK := Lib.hid hK
                have HO := Lib.hid hO
                have HOW := Lib.hid how
                clear hK hO how
                have hlive := HK.out.live
                have hc := counts_any hlive false (by rw [HO.out.rows]; have := HO.out.wl; omega)
                rw [HO.out.counts] at hc
                have HC := Lib.hid hc
                have HM1 := Lib.hid (fun (X : World) (hX : Below w6.heap.size w6 X) => marked_any (hlive.below hX) true)
                clear hc hlive
                go_wp2_with fail
                refine HC.out.mono ?_
                rintro e w8 ⟨v8, rfl, hown8, hb8⟩
                have hr8 := Reads.own hown8
                obtain ⟨a8, c8, rfl⟩ := hr8.shape
                have HB8 := Lib.hid hb8
                have HR8 := Lib.hid hr8
                have HR9 := Lib.hid ((Reads.own HOW.out).below hb8)
                obtain ⟨a9, c9, hv9⟩ := (Reads.own HOW.out).shape
                clear hown8 hb8 hr8
                first | subst hv9 | clear hv9
                go_wp2_with fail
                refine (oequal_same w8 _ _ _ HR8.out HR9.out).mono ?_
                rintro e w9 ⟨rfl, hb9⟩
                have HB9 := Lib.hid (bel_trans HB8.out hb9)
                clear hb9
                go_wp2_with fail
                have hm := HM1.out w9 HB9.out
                rw [HO.out.mark] at hm
                refine hm.mono ?_
                clear hm
                rintro e w10 ⟨rfl, hb10⟩
                have HB10 := Lib.hid (bel_trans HB9.out hb10)
                clear hb10
                have HK10 := Lib.hid ((HK.out.grow HB10.out).less (K' := fun k => Value.ownBlock _ = some k) (fun k hk => .inl hk))
                have HOW10 := Lib.hid (own_below HOW.out HB10.out)
                go_wp2_with fail
                go_roundw
                case rel => exact ⟨i + 1, _, _, _, by omega, by go_num, rfl, HK10, HO, HOW10⟩
                case measure => simp [intOf]; omega
            | some ad =>
              have HAD := Lib.hid (reads_ad HX6.out ad rfl)
              have HON := Lib.hid (ints_ocell (flatO xl))
              have hwl := HO.out.wl
              rw [HQ.out] at hwl
              go_wp2_with (at_builtin; refine wpList_append_own_at _ rfl _ _ 73 rfl w.heap.size 84 i0 (.agg #[.int .i64 0, .int .i64 0]) 2 16 Try.underlying73 hi0 hz0 hz1 hz2 rfl (by decide) (.slice vwa q vwc) q (outCells want) (by rfl) HO6.out ad n xc (outCells xl) (by rfl) (by rw [outCells_len, HN.out]) HAD.out HON.out (by unfold maxLen; omega) (by omega) HK6.out.old.size ?_)
              intro v' w7 hown hgr _ hat
              have hK := outk_append (B := w.heap.size) HK6.out hgr (fun g hg hgk => by have h1 := (own_out HO6.out g hg).1; have h2 : g < w.heap.size := hgk; omega) hat (fun g hg => ⟨(own_out hown g hg).1, (own_out hown g hg).2.1⟩)
              have hO := HST.out.st3
              have how : w7.ownsRow w.heap.size 84 2 v' (want ++ xl).length (outCells (want ++ xl)) := by rw [List.length_append, outCells_app, HQ.out, HN.out]; exact hown
              obtain ⟨wn, hwn⟩ : ∃ z, want ++ xl = z := ⟨_, rfl⟩
              rw [hwn] at hO how
              clear hown hgr hat hwl hwn
              go_wp2_with fail
              have HK := Lib.hid hK
              have HO := Lib.hid hO
              have HOW := Lib.hid how
              clear hK hO how
              have hlive := HK.out.live
              have hc := counts_any hlive false (by rw [HO.out.rows]; have := HO.out.wl; omega)
              rw [HO.out.counts] at hc
              have HC := Lib.hid hc
              have HM1 := Lib.hid (fun (X : World) (hX : Below w7.heap.size w7 X) => marked_any (hlive.below hX) true)
              clear hc hlive
              go_wp2_with fail
              refine HC.out.mono ?_
              rintro e w8 ⟨v8, rfl, hown8, hb8⟩
              have hr8 := Reads.own hown8
              obtain ⟨a8, c8, rfl⟩ := hr8.shape
              have HB8 := Lib.hid hb8
              have HR8 := Lib.hid hr8
              have HR9 := Lib.hid ((Reads.own HOW.out).below hb8)
              obtain ⟨a9, c9, hv9⟩ := (Reads.own HOW.out).shape
              clear hown8 hb8 hr8
              first | subst hv9 | clear hv9
              go_wp2_with fail
              refine (oequal_same w8 _ _ _ HR8.out HR9.out).mono ?_
              rintro e w9 ⟨rfl, hb9⟩
              have HB9 := Lib.hid (bel_trans HB8.out hb9)
              clear hb9
              go_wp2_with fail
              have hm := HM1.out w9 HB9.out
              rw [HO.out.mark] at hm
              refine hm.mono ?_
              clear hm
              rintro e w10 ⟨rfl, hb10⟩
              have HB10 := Lib.hid (bel_trans HB9.out hb10)
              clear hb10
              have HK10 := Lib.hid ((HK.out.grow HB10.out).less (K' := fun k => Value.ownBlock _ = some k) (fun k hk => .inl hk))
              have HOW10 := Lib.hid (own_below HOW.out HB10.out)
              go_wp2_with fail
              go_roundw
              case rel => exact ⟨i + 1, _, _, _, by omega, by go_num, rfl, HK10, HO, HOW10⟩
              case measure => simp [intOf]; omega
          · have hikk : (i : Int) < (k : Int) := by omega
            obtain ⟨b2, ob2, cap2, hv2, hcap2, hcm2, hblt2, hcells2⟩ := HR2.out.some (by omega)
            cases hv2
            have rb := (World.cell?_of_block ((HBK.out _ _ _ H4.out).old.bel.block b2 hblt2)).trans (hcells2 i (.bool false) (by unfold boolCells; rw [List.getElem?_map, hmi]; rfl))
            clear hcells2 hmi
            go_wp2_with fail
            refine HCUT.out.mono ?_
            rintro e w5 ⟨rfl, h5⟩
            have hK := HBK.out _ _ _ h5
            have hO := HST.out.st4
            have how : w5.ownsRow w.heap.size 84 2 (.slice vwa q vwc) want.length (outCells want) := by rw [HQ.out]; exact HKP.out _ h5.old
            clear h5
            go_wp2_with fail
            have HK := Lib.hid hK
            have HO := Lib.hid hO
            have HOW := Lib.hid how
            clear hK hO how
            have hlive := HK.out.live
            have hc := counts_any hlive false (by rw [HO.out.rows]; have := HO.out.wl; omega)
            rw [HO.out.counts] at hc
            have HC := Lib.hid hc
            have HM1 := Lib.hid (fun (X : World) (hX : Below w5.heap.size w5 X) => marked_any (hlive.below hX) true)
            clear hc hlive
            go_wp2_with fail
            refine HC.out.mono ?_
            rintro e w8 ⟨v8, rfl, hown8, hb8⟩
            have hr8 := Reads.own hown8
            obtain ⟨a8, c8, rfl⟩ := hr8.shape
            have HB8 := Lib.hid hb8
            have HR8 := Lib.hid hr8
            have HR9 := Lib.hid ((Reads.own HOW.out).below hb8)
            obtain ⟨a9, c9, hv9⟩ := (Reads.own HOW.out).shape
            clear hown8 hb8 hr8
            first | subst hv9 | clear hv9
            go_wp2_with fail
            refine (oequal_same w8 _ _ _ HR8.out HR9.out).mono ?_
            rintro e w9 ⟨rfl, hb9⟩
            have HB9 := Lib.hid (bel_trans HB8.out hb9)
            clear hb9
            go_wp2_with fail
            have hm := HM1.out w9 HB9.out
            rw [HO.out.mark] at hm
            refine hm.mono ?_
            clear hm
            rintro e w10 ⟨rfl, hb10⟩
            have HB10 := Lib.hid (bel_trans HB9.out hb10)
            clear hb10
            have HK10 := Lib.hid ((HK.out.grow HB10.out).less (K' := fun k => Value.ownBlock _ = some k) (fun k hk => .inl hk))
            have HOW10 := Lib.hid (own_below HOW.out HB10.out)
            go_wp2_with fail
            go_roundw
            case rel => exact ⟨i + 1, _, _, _, by omega, by go_num, rfl, HK10, HO, HOW10⟩
            case measure => simp [intOf]; omega
          · have hikk : ¬ (i : Int) < (k : Int) := by omega
            go_wp2_with fail
            refine HCUT.out.mono ?_
            rintro e w5 ⟨rfl, h5⟩
            have hK := HBK.out _ _ _ h5
            have hO := HST.out.st4
            have how : w5.ownsRow w.heap.size 84 2 (.slice vwa q vwc) want.length (outCells want) := by rw [HQ.out]; exact HKP.out _ h5.old
            clear h5
            go_wp2_with fail
            have HK := Lib.hid hK
            have HO := Lib.hid hO
            have HOW := Lib.hid how
            clear hK hO how
            have hlive := HK.out.live
            have hc := counts_any hlive false (by rw [HO.out.rows]; have := HO.out.wl; omega)
            rw [HO.out.counts] at hc
            have HC := Lib.hid hc
            have HM1 := Lib.hid (fun (X : World) (hX : Below w5.heap.size w5 X) => marked_any (hlive.below hX) true)
            clear hc hlive
            go_wp2_with fail
            refine HC.out.mono ?_
            rintro e w8 ⟨v8, rfl, hown8, hb8⟩
            have hr8 := Reads.own hown8
            obtain ⟨a8, c8, rfl⟩ := hr8.shape
            have HB8 := Lib.hid hb8
            have HR8 := Lib.hid hr8
            have HR9 := Lib.hid ((Reads.own HOW.out).below hb8)
            obtain ⟨a9, c9, hv9⟩ := (Reads.own HOW.out).shape
            clear hown8 hb8 hr8
            first | subst hv9 | clear hv9
            go_wp2_with fail
            refine (oequal_same w8 _ _ _ HR8.out HR9.out).mono ?_
            rintro e w9 ⟨rfl, hb9⟩
            have HB9 := Lib.hid (bel_trans HB8.out hb9)
            clear hb9
            go_wp2_with fail
            have hm := HM1.out w9 HB9.out
            rw [HO.out.mark] at hm
            refine hm.mono ?_
            clear hm
            rintro e w10 ⟨rfl, hb10⟩
            have HB10 := Lib.hid (bel_trans HB9.out hb10)
            clear hb10
            have HK10 := Lib.hid ((HK.out.grow HB10.out).less (K' := fun k => Value.ownBlock _ = some k) (fun k hk => .inl hk))
            have HOW10 := Lib.hid (own_below HOW.out HB10.out)
            go_wp2_with fail
            go_roundw
            case rel => exact ⟨i + 1, _, _, _, by omega, by go_num, rfl, HK10, HO, HOW10⟩
            case measure => simp [intOf]; omega
      · have hik : ¬ (i : Int) < (m : Int) := by omega
        go_wp2_with fail
        refine (oworks_any _).mono ?_
        rintro e w4 ⟨rfl, hb⟩
        have HB := Lib.hid (HK.out.live.below hb).old.bel
        clear hb
        go_wp2_with fail
        go_ret
        exact ⟨rfl, HB.out⟩

end Go.Proofs.Ytllecjhfbojgcaa
