/-
  The walk through OutputBoth.
-/
import Derived.Test.YtllecjhfbojgcaaOutBothP
namespace Go.Proofs.Ytllecjhfbojgcaa
open Go.RowKit
set_option maxRecDepth 20000

set_option maxHeartbeats 16000000 in
set_option maxRecDepth 100000 in
theorem outputBoth_walk (v : Value) (a : List OutX) (u : Value) (b : List OutX) (p chg byt : Int) (w : World) (hla : a.length ≤ 140737488355328) (hlv : ∀ g, v.ownBlock = some g → g < w.heap.size) (hr : Reads w v a.length (outCells a)) (hi : OIn a) (hlb : b.length ≤ 140737488355328) (hlu : ∀ g, u.ownBlock = some g → g < w.heap.size) (hr2 : Reads w u b.length (outCells b)) (hi2 : OIn b) (hp : (Lit.int .i64 p).wf = true) (_hc : (Lit.int .i64 chg).wf = true) (_hb : (Lit.int .i64 byt).wf = true) :
    Calls Try.prog 9 #[v, u, .int .i64 p, .int .i64 chg, .int .i64 byt] w fun e w' => e = .returned (.bool true) ∧ Below w.heap.size w w' := by
  have hp2 := (bounds_i64 hp).2
  have HR := Lib.hid (fun (X : World) (hX : Since (Fr.all w) X) => hr.ownKept hX.size (fun g hg => hX.block g (hlv g hg)))
  have HR2 := Lib.hid (fun (X : World) (hX : Since (Fr.all w) X) => hr2.ownKept hX.size (fun g hg => hX.block g (hlu g hg)))
  have HLT := Lib.hid hlv
  have HLT2 := Lib.hid hlu
  have HI := Lib.hid hi
  have HI2 := Lib.hid hi2
  obtain ⟨ab, ac, rfl⟩ := hr.shape
  obtain ⟨bb, bc, rfl⟩ := hr2.shape
  clear hlv hlu hr hr2 hi hi2 hp _hc _hb
  by_cases hbig : 500 < a.length + b.length
  · have hb1 : (500 : Int) < (a.length : Int) + (b.length : Int) := by omega
    go_enter Try.func9, Try.ntmps9
    go_wp2_with fail
    refine (oworks_any _).mono ?_
    rintro e w1 ⟨rfl, hb⟩
    go_wp2_with fail
    go_ret
    exact ⟨rfl, hb⟩
  · have hb1 : ¬ (500 : Int) < (a.length : Int) + (b.length : Int) := by omega
    by_cases hpn : p < 0
    · go_enter Try.func9, Try.ntmps9
      go_wp2_with fail
      refine (oworks_any _).mono ?_
      rintro e w1 ⟨rfl, hb⟩
      go_wp2_with fail
      go_ret
      exact ⟨rfl, hb⟩
    · have hP := bothP a b HI.out HI2.out (by omega) p (by omega)
      have HP := Lib.hid hP
      clear hP
      go_enter Try.func9, Try.ntmps9
      go_wp2_with fail
      refine (live_new 4194304 w (by decide)).mono ?_
      rintro e w1 ⟨rfl, h⟩
      have H := Lib.hid (show Live w w1 w.heap.size (Dk.fresh 4194304) from h)
      clear h
      unfold ptr
      go_wp2_with fail
      refine (oopen_fresh (Fr.all w) w1 w.heap.size 4194304 H.out.frame).mono ?_
      rintro e w2 ⟨o, rfl, h⟩
      have H2 := Lib.hid (show OutLive (Fr.all w) w2 o w.heap.size out0 from h)
      clear h
      unfold ptr
      go_wp2_with fail
      refine (otell_any H2.out HP.out.f0 (by omega) false 3 (by unfold Cl.In64; omega) _ a (HR.out w2 H2.out.old) (fun k hk => HLT.out k hk) HI.out (by omega)).mono ?_
      rintro e w3 ⟨rfl, h⟩
      rw [HP.out.e1]
      have H3 := Lib.hid (show OutLive (Fr.all w) w3 o w.heap.size (bo1 a) from h)
      clear h
      go_wp2_with fail
      refine (otell_any H3.out HP.out.f1 (by omega) true 3 (by unfold Cl.In64; omega) _ b (HR2.out w3 H3.out.old) (fun k hk => HLT2.out k hk) HI2.out (by omega)).mono ?_
      rintro e w4 ⟨rfl, h⟩
      rw [HP.out.e2]
      have H4 := Lib.hid (show OutLive (Fr.all w) w4 o w.heap.size (bo2 a b) from h)
      clear h
      go_wp2_with fail
      refine (osync_any H4.out).mono ?_
      rintro e w5 ⟨rfl, h⟩
      rw [HP.out.e3]
      have H5 := Lib.hid (show OutLive (Fr.all w) w5 o w.heap.size (bo3 a b) from h)
      clear h
      go_wp2_with fail
      refine (out_power H5.out p (by omega)).mono ?_
      rintro e w6 ⟨rfl, h⟩
      have H6 := Lib.hid (show OutLive (Fr.all w) w6 o w.heap.size (bo4 a b p) from h)
      clear h
      go_wp2_with fail
      refine (omark_any H6.out HP.out.f4 (by omega) 3 (by unfold Cl.In64; omega)).mono ?_
      rintro e w7 ⟨rfl, h⟩
      have H7 := Lib.hid (show OutLive (Fr.all w) w7 o w.heap.size (bo5 a b p) from h)
      have h5 := HP.out.e5
      have hex := HP.out.ex chg byt
      obtain ⟨c, hc⟩ : ∃ c, ((bo4 a b p).mark 3).1 = c := ⟨_, rfl⟩
      rw [hc] at h5 hex
      rw [hc]
      clear h hc
      obtain ⟨rs, D1, D2, ho0, ho1, hv, hle, h3, hr, hf, he, hr6⟩ := hex
      have HO0 := Lib.hid ho0
      have HO1 := Lib.hid ho1
      have HV := Lib.hid hv
      have HF := Lib.hid hf
      have HE := Lib.hid he
      have HR6 := Lib.hid hr6
      have HRS := Lib.hid hr
      have HH3 := Lib.hid h3
      have HLE := Lib.hid hle
      clear ho0 ho1 hv hle h3 hr hf he hr6
      go_wp2_with fail
      refine (lf_crash H7.out.disk chg byt).mono ?_
      rintro e w8 ⟨rfl, h⟩
      have H8 := Lib.hid h
      clear h
      go_wp2_with fail
      refine (oopen_recs (Fr.all w) w8 w.heap.size _ D1 D2 H8.out rs HV.out HO0.out HO1.out).mono ?_
      rintro e w9 ⟨o2, rfl, h⟩
      have H9 := Lib.hid h
      clear h
      obtain ⟨x0, hx0⟩ : ∃ x, lastO (rs false) 2 = x := ⟨_, rfl⟩
      obtain ⟨x1, hx1⟩ : ∃ x, lastO (rs true) 2 = x := ⟨_, rfl⟩
      have hle := HLE.out
      have h3 := HH3.out
      rw [hx0, hx1] at hle
      rw [hx1] at h3
      have hlt : ¬ x0 < x1 := by omega
      have HX0 := Lib.hid hx0
      have HX1 := Lib.hid hx1
      clear hx0 hx1 hle
      unfold ptr
      go_wp2_with fail
      have hm := marked_any H9.out false
      rw [HRS.out, HX0.out] at hm
      refine hm.mono ?_
      clear hm
      rintro e w10 ⟨rfl, hb⟩
      have H10 := Lib.hid (H9.out.below hb)
      clear hb
      go_wp2_with fail
      have hm := marked_any H10.out true
      rw [HRS.out, HX1.out] at hm
      refine hm.mono ?_
      clear hm
      rintro e w11 ⟨rfl, hb⟩
      have H11 := Lib.hid (H10.out.below hb)
      clear hb
      rcases h5 with rfl | rfl
      · obtain rfl : x1 = 3 := h3 rfl
        go_wp2_with fail
        have hm := marked_any H11.out true
        rw [HRS.out, HX1.out] at hm
        refine hm.mono ?_
        clear hm
        rintro e w12 ⟨rfl, hb⟩
        have HZ := Lib.hid (H11.out.below hb)
        clear hb
        go_wp2_with fail
        refine (omark_any HZ.out HF.out (by omega) 3 (by unfold Cl.In64; omega)).mono ?_
        rintro e w13 ⟨rfl, h⟩
        rw [HE.out]
        have H13 := Lib.hid h
        clear h
        go_wp2_with fail
        have hc := counts_any H13.out false (by rw [HR6.out]; simp [bD, bM, bX]; omega)
        rw [HR6.out] at hc
        have hcd : countsO [bD (bX a b false), bM] = a := counts_dm a
        rw [hcd] at hc
        refine hc.mono ?_
        clear hc
        rintro e w14 ⟨v14, rfl, hown, hb⟩
        have h14 := H13.out.below hb
        have hr1 := Reads.own hown
        have hr2 := HR.out w14 h14.old
        obtain ⟨a14, c14, rfl⟩ := hr1.shape
        have H14 := Lib.hid h14
        have HA1 := Lib.hid hr1
        have HA2 := Lib.hid hr2
        clear hown hb h14 hr1 hr2
        go_wp2_with fail
        refine (oequal_same w14 _ _ a HA1.out HA2.out).mono ?_
        rintro e w15 ⟨rfl, hb⟩
        have H15 := Lib.hid (H14.out.below hb)
        clear hb
        go_wp2_with fail
        have hc := counts_any H15.out true (by rw [HR6.out]; simp [bD, bM, bX]; omega)
        rw [HR6.out] at hc
        have hcd : countsO [bD (bX a b true), bM] = b := counts_dm b
        rw [hcd] at hc
        refine hc.mono ?_
        clear hc
        rintro e w16 ⟨v16, rfl, hown, hb⟩
        have h16 := H15.out.below hb
        have hr1 := Reads.own hown
        have hr2 := HR2.out w16 h16.old
        obtain ⟨a16, c16, rfl⟩ := hr1.shape
        have H16 := Lib.hid h16
        have HB1 := Lib.hid hr1
        have HB2 := Lib.hid hr2
        clear hown hb h16 hr1 hr2
        go_wp2_with fail
        refine (oequal_same w16 _ _ b HB1.out HB2.out).mono ?_
        rintro e w17 ⟨rfl, hb⟩
        have H17 := Lib.hid (H16.out.below hb)
        clear hb
        go_wp2_with fail
        have hm := marked_any H17.out false
        rw [HR6.out, last_dm] at hm
        refine hm.mono ?_
        clear hm
        rintro e w18 ⟨rfl, hb⟩
        have H18 := Lib.hid (H17.out.below hb)
        clear hb
        go_wp2_with fail
        have hm := marked_any H18.out true
        rw [HR6.out, last_dm] at hm
        refine hm.mono ?_
        clear hm
        rintro e w19 ⟨rfl, hb⟩
        have H19 := Lib.hid (H18.out.below hb)
        clear hb
        go_wp2_with fail
        refine (oworks_any _).mono ?_
        rintro e w20 ⟨rfl, hb⟩
        have H20 := Lib.hid (H19.out.below hb).old.bel
        clear hb
        go_wp2_with fail
        go_ret
        exact ⟨rfl, H20.out⟩
      · have HZ := H11
        go_wp2_with fail
        refine (omark_any HZ.out HF.out (by omega) 3 (by unfold Cl.In64; omega)).mono ?_
        rintro e w13 ⟨rfl, h⟩
        rw [HE.out]
        have H13 := Lib.hid h
        clear h
        go_wp2_with fail
        have hc := counts_any H13.out false (by rw [HR6.out]; simp [bD, bM, bX]; omega)
        rw [HR6.out] at hc
        have hcd : countsO [bD (bX a b false), bM] = a := counts_dm a
        rw [hcd] at hc
        refine hc.mono ?_
        clear hc
        rintro e w14 ⟨v14, rfl, hown, hb⟩
        have h14 := H13.out.below hb
        have hr1 := Reads.own hown
        have hr2 := HR.out w14 h14.old
        obtain ⟨a14, c14, rfl⟩ := hr1.shape
        have H14 := Lib.hid h14
        have HA1 := Lib.hid hr1
        have HA2 := Lib.hid hr2
        clear hown hb h14 hr1 hr2
        go_wp2_with fail
        refine (oequal_same w14 _ _ a HA1.out HA2.out).mono ?_
        rintro e w15 ⟨rfl, hb⟩
        have H15 := Lib.hid (H14.out.below hb)
        clear hb
        go_wp2_with fail
        have hc := counts_any H15.out true (by rw [HR6.out]; simp [bD, bM, bX]; omega)
        rw [HR6.out] at hc
        have hcd : countsO [bD (bX a b true), bM] = b := counts_dm b
        rw [hcd] at hc
        refine hc.mono ?_
        clear hc
        rintro e w16 ⟨v16, rfl, hown, hb⟩
        have h16 := H15.out.below hb
        have hr1 := Reads.own hown
        have hr2 := HR2.out w16 h16.old
        obtain ⟨a16, c16, rfl⟩ := hr1.shape
        have H16 := Lib.hid h16
        have HB1 := Lib.hid hr1
        have HB2 := Lib.hid hr2
        clear hown hb h16 hr1 hr2
        go_wp2_with fail
        refine (oequal_same w16 _ _ b HB1.out HB2.out).mono ?_
        rintro e w17 ⟨rfl, hb⟩
        have H17 := Lib.hid (H16.out.below hb)
        clear hb
        go_wp2_with fail
        have hm := marked_any H17.out false
        rw [HR6.out, last_dm] at hm
        refine hm.mono ?_
        clear hm
        rintro e w18 ⟨rfl, hb⟩
        have H18 := Lib.hid (H17.out.below hb)
        clear hb
        go_wp2_with fail
        have hm := marked_any H18.out true
        rw [HR6.out, last_dm] at hm
        refine hm.mono ?_
        clear hm
        rintro e w19 ⟨rfl, hb⟩
        have H19 := Lib.hid (H18.out.below hb)
        clear hb
        go_wp2_with fail
        refine (oworks_any _).mono ?_
        rintro e w20 ⟨rfl, hb⟩
        have H20 := Lib.hid (H19.out.below hb).old.bel
        clear hb
        go_wp2_with fail
        go_ret
        exact ⟨rfl, H20.out⟩

end Go.Proofs.Ytllecjhfbojgcaa
