/-
  The walk through the statement PipePlays.
-/
import Derived.Test.YtgoglcggnmfapaaPipeBoth
import Derived.Test.YtgoglcggnmfapaaPipeWorks
import Derived.Test.YtgoglcggnmfapaaArgsOp2
import Derived.Deep.CutRange
namespace Go.Proofs.Ytgoglcggnmfapaa
open Go.RowKit Go.Conc

theorem headV_form {w0 : World} {ms : List MsgV} (ok : ∀ m ∈ ms, ∃ l : List (Int × Int × Int), Reads w0 m.lv l.length (recCells l)) : ∃ (x y : Int) (la : Option Addr) (lc : Nat) (L : List (Int × Int × Int)), headV ms = .agg #[.int .i64 x, .int .i64 y, .slice la L.length lc] ∧ Reads w0 (.slice la L.length lc) L.length (recCells L) := by
  cases ms with
  | nil => exact ⟨0, 0, none, 0, [], rfl, Reads.nil _⟩
  | cons m rest =>
    obtain ⟨L, hL⟩ := ok m (by simp)
    obtain ⟨la, lc, hv⟩ := hL.shape
    refine ⟨m.seq, m.bar, la, lc, L, ?_, hv ▸ hL⟩
    show m.val = _
    unfold MsgV.val
    rw [hv]

set_option maxHeartbeats 16000000 in
set_option maxRecDepth 100000 in
theorem pipePlays_main (n : Nat) (v : Value) (l : List (Int × MsgP × Value)) (w : World) (h1 : 1 ≤ n) (h8 : n ≤ 8) (hr : Reads w v l.length (opCells (l.map opFlat))) (hi : ∀ o ∈ l, Reads w o.2.2 o.2.1.l.length (recCells o.2.1.l)) (hl : l.length ≤ 300) :
    Calls Try.prog 3 #[.int .i64 (n : Int), v] w fun e w' => e = .returned (.bool true) ∧ Below w.heap.size w w' := by
  have HI := Lib.hid hi
  have hr0 : Reads w v (l.map opFlat).length (opCells (l.map opFlat)) := by rw [List.length_map]; exact hr
  obtain ⟨sa, sc, rfl⟩ := hr.shape
  obtain ⟨M, hM⟩ : ∃ M, l.length = M := ⟨_, rfl⟩
  have HM := Lib.hid hM
  rw [hM] at hl
  rw [List.length_map, hM] at hr0
  rw [hM]
  have HR := Lib.hid hr0
  have hd : decide ((300 : Int) < (M : Int)) = false := by simp; omega
  clear hr hi hr0 hM
  go_enter Try.func3, Try.ntmps3
  go_wp2_with fail
  refine (new_ok n w h1 h8).mono ?_
  rintro e w1 ⟨rfl, hb1, hp1⟩
  go_wp2_with fail
  refine (refnew_ok n w1 h1 h8).mono ?_
  rintro e w2 ⟨rfl, hb2, hs2, hr2⟩
  have HB := Lib.hid (Both.ofNew hb1 hp1 hb2 hs2 hr2)
  clear hb1 hp1 hb2 hs2 hr2
  obtain ⟨cb, hcb⟩ : ∃ c, w.heap.size = c := ⟨_, rfl⟩
  obtain ⟨pb, hpb⟩ : ∃ p, cb + 1 = p := ⟨_, rfl⟩
  obtain ⟨rb, hrb⟩ : ∃ r, w1.heap.size = r := ⟨_, rfl⟩
  obtain ⟨N, hN⟩ : ∃ N, rb + 1 = N := ⟨_, rfl⟩
  rw [hcb, hrb, hpb, hN] at HB
  rw [hcb, hpb, hrb]
  clear hpb hrb hN hd
  go_wp2_with fail
  go_loopw [6, 8, 39] (fun e f i wr => ∃ (k : Nat) (c : Int) (ms : List MsgV), k ≤ M ∧ i = .int .i64 (k : Int) ∧ e = .int .i64 c ∧ f = .int .i64 c ∧ Hid (Both w wr pb cb rb n N ms ms (fun _ => False))) (fun _ _ i _ => M - (intOf i).toNat)
  case atStart => exact ⟨0, 0, [], Nat.zero_le _, rfl, rfl, rfl, HB⟩
  case round =>
    obtain ⟨k, c, ms, hk, rfl, rfl, rfl, HS⟩ := hrel
    by_cases hlt : k < M
    · obtain ⟨o, ho⟩ : ∃ o, l[k]? = some o := ⟨l[k]'(by rw [HM.out]; exact hlt), by simp⟩
      have hre := HR.out.below HS.out.bel
      obtain ⟨b, off, rfl, hbl, g0, g1, g2, g3⟩ := reads4 (l := l.map opFlat) (by rw [List.length_map, HM.out]; exact hre) k (opFlat o) (by rw [List.getElem?_map, ho]; rfl)
      have HO := Lib.hid (HI.out o (List.mem_of_getElem? ho))
      obtain ⟨kind, ⟨seq, bar, lst⟩, lv⟩ := o
      simp only [opFlat] at g0 g1 g2 g3
      have HO : Hid (Reads w lv lst.length (recCells lst)) := HO
      obtain ⟨la, lc, rfl⟩ := HO.out.shape
      have hi1 : (k : Int) < (M : Int) := by omega
      clear hre ho
      go_upto_region 13 with fail
      obtain ⟨bo, hbo⟩ : ∃ b, wr.heap.size = b := ⟨_, rfl⟩
      have hbV := bel_trans (bel_trans (bel_alloc wr (.cells #[.int .i64 kind, .int .i64 seq, .int .i64 bar, .slice la lst.length lc] 35)) (bel_alloc _ (.cells #[.int .i64 0, .int .i64 0, .slice none 0 0] 33))) (bel_alloc _ (.cells #[.int .i64 0, .int .i64 0, .slice none 0 0] 33))
      have hVo : (((wr.alloc (.cells #[.int .i64 kind, .int .i64 seq, .int .i64 bar, .slice la lst.length lc] 35)).alloc (.cells #[.int .i64 0, .int .i64 0, .slice none 0 0] 33)).alloc (.cells #[.int .i64 0, .int .i64 0, .slice none 0 0] 33)).heap[wr.heap.size]? = some (.cells #[.int .i64 kind, .int .i64 seq, .int .i64 bar, .slice la lst.length lc] 35) :=
        (Below.heap_alloc _ _ _ (by simp; omega)).trans ((Below.heap_alloc _ _ _ (by simp)).trans (heap_alloc_new _ _))
      have hVa : (((wr.alloc (.cells #[.int .i64 kind, .int .i64 seq, .int .i64 bar, .slice la lst.length lc] 35)).alloc (.cells #[.int .i64 0, .int .i64 0, .slice none 0 0] 33)).alloc (.cells #[.int .i64 0, .int .i64 0, .slice none 0 0] 33)).heap[wr.heap.size + 1]? = some (.cells #[.int .i64 0, .int .i64 0, .slice none 0 0] 33) := by
        have := heap_alloc_new (wr.alloc (.cells #[.int .i64 kind, .int .i64 seq, .int .i64 bar, .slice la lst.length lc] 35)) (.cells #[.int .i64 0, .int .i64 0, .slice none 0 0] 33)
        rw [World.size_alloc] at this
        exact (Below.heap_alloc _ _ _ (by simp)).trans this
      have hVb : (((wr.alloc (.cells #[.int .i64 kind, .int .i64 seq, .int .i64 bar, .slice la lst.length lc] 35)).alloc (.cells #[.int .i64 0, .int .i64 0, .slice none 0 0] 33)).alloc (.cells #[.int .i64 0, .int .i64 0, .slice none 0 0] 33)).heap[wr.heap.size + 1 + 1]? = some (.cells #[.int .i64 0, .int .i64 0, .slice none 0 0] 33) := by
        have := heap_alloc_new ((wr.alloc (.cells #[.int .i64 kind, .int .i64 seq, .int .i64 bar, .slice la lst.length lc] 35)).alloc (.cells #[.int .i64 0, .int .i64 0, .slice none 0 0] 33)) (.cells #[.int .i64 0, .int .i64 0, .slice none 0 0] 33)
        rw [World.size_alloc, World.size_alloc] at this
        exact this
      have HSV := Lib.hid ((HS.out.grow hbV).less (K' := fun k => k = wr.heap.size + 1 ∨ k = wr.heap.size + 1 + 1) (fun k hk => .inr (by simp; omega)))
      obtain ⟨V, hV⟩ : ∃ V, ((wr.alloc (.cells #[.int .i64 kind, .int .i64 seq, .int .i64 bar, .slice la lst.length lc] 35)).alloc (.cells #[.int .i64 0, .int .i64 0, .slice none 0 0] 33)).alloc (.cells #[.int .i64 0, .int .i64 0, .slice none 0 0] 33) = V := ⟨_, rfl⟩
      rw [hV] at hVo hVa hVb HSV ⊢
      rw [hbo] at hVo hVa hVb HSV ⊢
      have hfar : pb < bo ∧ cb < bo ∧ rb < bo := by rw [← hbo]; exact HS.out.lt
      have hbw : w.heap.size ≤ bo := by rw [← hbo]; exact HS.out.bel.size
      have o0 := cells_at hVo 0 _ rfl
      simp only [List.getElem_toArray, List.getElem_cons_zero] at o0
      have HVO := Lib.hid hVo
      have HVA := Lib.hid hVa
      have HVB := Lib.hid hVb
      clear hbV hV hbo hVo hVa hVb g0 g1 g2 g3
      go_cut [44] from 42 to 110 (fun s44 wx => s44 = .int .i64 kind ∧ wx = V)
      case first =>
        go_wp2_with fail
        go_meet
        case rel => exact ⟨rfl, rfl⟩
      case rest =>
        obtain ⟨rfl, hwc⟩ := hcut
        subst hwc
        apply_assumption
        go_cut [6, 8] from 42 to 110 (fun t6 t8 wx => ∃ (c' : Int) (ms' : List MsgV) (x y : Int) (ra : Option Addr) (rc : Nat) (L : List (Int × Int × Int)), t6 = .int .i64 c' ∧ t8 = .int .i64 c' ∧ Hid (Both w wx pb cb rb n N ms' ms' (fun _ => False)) ∧ Hid (wx.heap[bo + 1]? = some (.cells #[.int .i64 x, .int .i64 y, .slice ra L.length rc] 33)) ∧ Hid (wx.heap[bo + 1 + 1]? = some (.cells #[.int .i64 x, .int .i64 y, .slice ra L.length rc] 33)) ∧ Hid (Reads w (.slice ra L.length rc) L.length (recCells L)))
        case first =>
          by_cases hk0 : kind = 0
          · subst hk0
            go_upto_region 15 with fail
            refine wp_region_free [0, 1, 2, 4, 5, 6] 8 (fun W' => W'.heap[bo]? = some (.cells #[.int .i64 0, .int .i64 seq, .int .i64 bar, .slice la lst.length lc] 35)) (by kernel_rfl) (by kernel_rfl) ?_
            change wpYields _ _ _ _ [_, _, _, _, _, _] _
            iterate 6 (refine yields_step (fun K hK => ?_); apply Exists.intro; apply And.intro; (apply yields_at rfl; rintro W' hb; have c1 := cells_at hb 1 _ rfl; have c2 := cells_at hb 2 _ rfl; have c3 := cells_at hb 3 _ rfl; simp only [List.getElem_toArray, List.getElem_cons_zero, List.getElem_cons_succ] at c1 c2 c3; go_simp; first | done | rfl); go_simp; refine hK _ ?_; clear hK K)
            refine yields_nil ?_
            refine anyP_one (k := 3) (by kernel_rfl) (by decide) rfl rfl HVO.out ?_
            refine wpP_step rfl (fun K hK => ?_)
            go_simp
            go_at_call 11
            refine (bp_put (HSV.out.below (bel_drew _)) ⟨seq, bar, lst⟩ (.slice la lst.length lc) HO.out).mono ?_
            rintro e w5 ⟨rfl, h5, ho5⟩
            have hVO5 : w5.heap[bo]? = _ := (ho5.block bo (Array.getElem?_eq_some_iff.1 HVO.out).1 (by omega)).trans HVO.out
            have hVA5 : w5.heap[bo + 1]? = _ := (ho5.block (bo + 1) (Array.getElem?_eq_some_iff.1 HVA.out).1 (by omega)).trans HVA.out
            have hVB5 : w5.heap[bo + 1 + 1]? = _ := (ho5.block (bo + 1 + 1) (Array.getElem?_eq_some_iff.1 HVB.out).1 (by omega)).trans HVB.out
            refine hK _ _ ?_
            clear hK K
            refine anyP_one (k := 7) (by kernel_rfl) (by decide) rfl rfl hVO5 ?_
            refine wpP_step rfl (fun K hK => ?_)
            go_simp
            go_at_call 12
            refine (br_put h5 h8 ⟨seq, bar, lst⟩ (.slice la lst.length lc) HO.out).mono ?_
            rintro e w6 ⟨rfl, h6, ho6⟩
            have hVO6 : w6.heap[bo]? = _ := (ho6.block bo (Array.getElem?_eq_some_iff.1 hVO5).1 (by omega)).trans hVO5
            have hVA6 : w6.heap[bo + 1]? = _ := (ho6.block (bo + 1) (Array.getElem?_eq_some_iff.1 hVA5).1 (by omega)).trans hVA5
            have hVB6 : w6.heap[bo + 1 + 1]? = _ := (ho6.block (bo + 1 + 1) (Array.getElem?_eq_some_iff.1 hVB5).1 (by omega)).trans hVB5
            have H6 := Lib.hid (h6.less (K' := fun _ => False) (fun _ h => h.elim))
            have HA6 := Lib.hid hVA6
            have HB6 := Lib.hid hVB6
            refine hK _ _ ?_
            clear hK K
            refine anyP_leaf hVO6 (by kernel_rfl) ?_
            simp only [List.drop_succ_cons, List.drop_zero]
            clear h5 ho5 hVO5 hVA5 hVB5 h6 ho6 hVO6 hVA6 hVB6
            go_wp2_with fail
            go_meet
            case rel => exact ⟨_, _, 0, 0, none, 0, [], rfl, rfl, H6, HA6, HB6, Lib.hid (Reads.nil _)⟩
          · by_cases hk1 : kind = 1
            · subst hk1
              go_wp2_with fail
              refine (bp_head HSV.out).mono ?_
              rintro e w5 ⟨rfl, h5, ho5⟩
              obtain ⟨x, y, ra, rc, L, hv, hL⟩ := headV_form (w0 := w) HS.out.okP
              rw [hv]
              have hVA5 : w5.heap[bo + 1]? = _ := (ho5.block (bo + 1) (Array.getElem?_eq_some_iff.1 HVA.out).1 (by omega)).trans HVA.out
              have hVB5 : w5.heap[bo + 1 + 1]? = _ := (ho5.block (bo + 1 + 1) (Array.getElem?_eq_some_iff.1 HVB.out).1 (by omega)).trans HVB.out
              have f0 := cells_at hVA5 0 _ rfl
              have f1 := cells_at hVA5 1 _ rfl
              have f2 := cells_at hVA5 2 _ rfl
              have z0 := cells_free hVA5 0
              have z1 := cells_free hVA5 1
              have z2 := cells_free hVA5 2
              simp only [List.getElem_toArray, List.getElem_cons_succ, List.getElem_cons_zero] at f0 f1 f2
              have H5 := Lib.hid h5
              have HA5 := Lib.hid hVA5
              have HB5 := Lib.hid hVB5
              have HV := Lib.hid hv
              have HLL := Lib.hid hL
              clear h5 ho5 hVA5 hVB5 hv hL
              go_wp2_with fail
              have hA6 := cells_set3 HA5.out (.int .i64 x) (.int .i64 y) (.slice ra L.length rc)
              have hB6 := (set3_other (w := w5) (b := bo + 1) (k := bo + 1 + 1) (x' := .int .i64 x) (y' := .int .i64 y) (z' := .slice ra L.length rc) (by omega)).trans HB5.out
              have h6 := H5.out.side (Only.set3 (fun k => k = bo + 1 ∨ k = bo + 1 + 1) w5 (bo + 1) (.int .i64 x) (.int .i64 y) (.slice ra L.length rc) (.inl rfl)) (by omega)
              obtain ⟨w6, hw6⟩ : ∃ X, ((w5.setCell ⟨bo + 1, 0, none⟩ (.int .i64 x)).setCell ⟨bo + 1, 1, none⟩ (.int .i64 y)).setCell ⟨bo + 1, 2, none⟩ (.slice ra L.length rc) = X := ⟨_, rfl⟩
              rw [hw6] at hA6 hB6 h6 ⊢
              have H6 := Lib.hid h6
              have HA6 := Lib.hid hA6
              have HB6 := Lib.hid hB6
              clear hw6 hA6 hB6 h6 f0 f1 f2 z0 z1 z2
              refine (br_head H6.out).mono ?_
              rintro e w7 ⟨rfl, h7, ho7⟩
              rw [HV.out]
              have hVA7 : w7.heap[bo + 1]? = _ := (ho7.block (bo + 1) (Array.getElem?_eq_some_iff.1 HA6.out).1 (by omega)).trans HA6.out
              have hVB7 : w7.heap[bo + 1 + 1]? = _ := (ho7.block (bo + 1 + 1) (Array.getElem?_eq_some_iff.1 HB6.out).1 (by omega)).trans HB6.out
              have f0 := cells_at hVB7 0 _ rfl
              have f1 := cells_at hVB7 1 _ rfl
              have f2 := cells_at hVB7 2 _ rfl
              have z0 := cells_free hVB7 0
              have z1 := cells_free hVB7 1
              have z2 := cells_free hVB7 2
              simp only [List.getElem_toArray, List.getElem_cons_succ, List.getElem_cons_zero] at f0 f1 f2
              have H7 := Lib.hid h7
              have HA7 := Lib.hid hVA7
              have HB7 := Lib.hid hVB7
              clear h7 ho7 hVA7 hVB7
              go_wp2_with fail
              go_meet
              case rel =>
                refine ⟨_, _, x, y, ra, rc, L, rfl, rfl, Lib.hid ((H7.out.side (Only.set3 (fun k => k = bo + 1 ∨ k = bo + 1 + 1) w7 (bo + 1 + 1) (.int .i64 x) (.int .i64 y) (.slice ra L.length rc) (.inr rfl)) (by omega)).less (fun _ h => h.elim)), Lib.hid ?_, Lib.hid (cells_set3 HB7.out _ _ _), HLL⟩
                exact (set3_other (by omega)).trans HA7.out
            · by_cases hk2 : kind = 2
              · subst hk2
                go_wp2_with fail
                refine (bp_take HSV.out).mono ?_
                rintro e w5 ⟨rfl, h5, ho5⟩
                obtain ⟨x, y, ra, rc, L, hv, hL⟩ := headV_form (w0 := w) HS.out.okP
                rw [hv]
                have hVA5 : w5.heap[bo + 1]? = _ := (ho5.block (bo + 1) (Array.getElem?_eq_some_iff.1 HVA.out).1 (by omega)).trans HVA.out
                have hVB5 : w5.heap[bo + 1 + 1]? = _ := (ho5.block (bo + 1 + 1) (Array.getElem?_eq_some_iff.1 HVB.out).1 (by omega)).trans HVB.out
                have f0 := cells_at hVA5 0 _ rfl
                have f1 := cells_at hVA5 1 _ rfl
                have f2 := cells_at hVA5 2 _ rfl
                have z0 := cells_free hVA5 0
                have z1 := cells_free hVA5 1
                have z2 := cells_free hVA5 2
                simp only [List.getElem_toArray, List.getElem_cons_succ, List.getElem_cons_zero] at f0 f1 f2
                have H5 := Lib.hid h5
                have HA5 := Lib.hid hVA5
                have HB5 := Lib.hid hVB5
                have HV := Lib.hid hv
                have HLL := Lib.hid hL
                clear h5 ho5 hVA5 hVB5 hv hL
                go_wp2_with fail
                have hA6 := cells_set3 HA5.out (.int .i64 x) (.int .i64 y) (.slice ra L.length rc)
                have hB6 := (set3_other (w := w5) (b := bo + 1) (k := bo + 1 + 1) (x' := .int .i64 x) (y' := .int .i64 y) (z' := .slice ra L.length rc) (by omega)).trans HB5.out
                have h6 := H5.out.side (Only.set3 (fun k => k = bo + 1 ∨ k = bo + 1 + 1) w5 (bo + 1) (.int .i64 x) (.int .i64 y) (.slice ra L.length rc) (.inl rfl)) (by omega)
                obtain ⟨w6, hw6⟩ : ∃ X, ((w5.setCell ⟨bo + 1, 0, none⟩ (.int .i64 x)).setCell ⟨bo + 1, 1, none⟩ (.int .i64 y)).setCell ⟨bo + 1, 2, none⟩ (.slice ra L.length rc) = X := ⟨_, rfl⟩
                rw [hw6] at hA6 hB6 h6 ⊢
                have H6 := Lib.hid h6
                have HA6 := Lib.hid hA6
                have HB6 := Lib.hid hB6
                clear hw6 hA6 hB6 h6 f0 f1 f2 z0 z1 z2
                refine (br_take H6.out).mono ?_
                rintro e w7 ⟨rfl, h7, ho7⟩
                rw [HV.out]
                have hVA7 : w7.heap[bo + 1]? = _ := (ho7.block (bo + 1) (Array.getElem?_eq_some_iff.1 HA6.out).1 (by omega)).trans HA6.out
                have hVB7 : w7.heap[bo + 1 + 1]? = _ := (ho7.block (bo + 1 + 1) (Array.getElem?_eq_some_iff.1 HB6.out).1 (by omega)).trans HB6.out
                have f0 := cells_at hVB7 0 _ rfl
                have f1 := cells_at hVB7 1 _ rfl
                have f2 := cells_at hVB7 2 _ rfl
                have z0 := cells_free hVB7 0
                have z1 := cells_free hVB7 1
                have z2 := cells_free hVB7 2
                simp only [List.getElem_toArray, List.getElem_cons_succ, List.getElem_cons_zero] at f0 f1 f2
                have H7 := Lib.hid h7
                have HA7 := Lib.hid hVA7
                have HB7 := Lib.hid hVB7
                clear h7 ho7 hVA7 hVB7
                go_wp2_with fail
                go_meet
                case rel =>
                  refine ⟨_, _, x, y, ra, rc, L, rfl, rfl, Lib.hid ((H7.out.side (Only.set3 (fun k => k = bo + 1 ∨ k = bo + 1 + 1) w7 (bo + 1 + 1) (.int .i64 x) (.int .i64 y) (.slice ra L.length rc) (.inr rfl)) (by omega)).less (fun _ h => h.elim)), Lib.hid ?_, Lib.hid (cells_set3 HB7.out _ _ _), HLL⟩
                  exact (set3_other (by omega)).trans HA7.out
              · have q0 : (kind == 0) = false := by simpa using hk0
                have q1 : (kind == 1) = false := by simpa using hk1
                have q2 : (kind == 2) = false := by simpa using hk2
                go_wp2_with fail
                go_meet
                case rel => exact ⟨_, _, 0, 0, none, 0, [], rfl, rfl, Lib.hid (HSV.out.less (fun _ h => h.elim)), HVA, HVB, Lib.hid (Reads.nil _)⟩
        case rest =>
          obtain ⟨c', ms', x, y, ra, rc, L, rfl, rfl, HS2, HA2, HB2, HL2⟩ := hcut
          obtain ⟨Lv, hrf, -⟩ := HS2.out.ref
          obtain ⟨xa, xc, rfl⟩ := hrf.row.shape
          have HRF := Lib.hid hrf.box
          have hla := (Array.getElem?_eq_some_iff.1 HA2.out).1
          have hlb := (Array.getElem?_eq_some_iff.1 HB2.out).1
          have hlr := HS2.out.lt.2.2
          obtain ⟨k2, hk2⟩ : ∃ k2, ms'.length = k2 := ⟨_, rfl⟩
          have hroom : k2 ≤ n := by
            obtain ⟨hd, q, hp, hm, -⟩ := HS2.out.pipe
            have := hp.room
            rw [← msgsOf_len, hm, hk2] at this
            exact this
          have e1 : IntKind.i64.wrap ((n : Int) - (k2 : Int)) = (n : Int) - (k2 : Int) := IntWalk.i64_in _ (by omega)
          have HK2 := Lib.hid hk2
          rw [hk2] at HRF
          clear hrf hk2
          go_upto_region 22 with fail
          obtain ⟨X, hX⟩ : ∃ X, wc.drew = X := ⟨_, rfl⟩
          have HSX := Lib.hid (HS2.out.below (bel_drew wc))
          have hXA : X.heap[bo + 1]? = some (.cells #[.int .i64 x, .int .i64 y, .slice ra L.length rc] 33) := by rw [← hX]; exact HA2.out
          have hXB : X.heap[bo + 1 + 1]? = some (.cells #[.int .i64 x, .int .i64 y, .slice ra L.length rc] 33) := by rw [← hX]; exact HB2.out
          have hXR : X.heap[rb]? = some (.cells #[.slice xa k2 xc, .int .i64 (n : Int)] 43) := by rw [← hX]; exact HRF.out
          rw [hX] at HSX
          refine wp_region_free [0, 1, 2, 3, 4, 5] 30 (fun W' => Below X.heap.size X W') (by kernel_rfl) (by kernel_rfl) ?_
          rw [hX]
          change wpYields _ _ _ _ [_, _, _, _, _, _] _
          iterate 6 (refine yields_step (fun K hK => ?_); apply Exists.intro; apply And.intro; (apply yields_at rfl; rintro W' hb; have ca := (hb.block (bo + 1) (Array.getElem?_eq_some_iff.1 hXA).1).trans hXA; have cb' := (hb.block (bo + 1 + 1) (Array.getElem?_eq_some_iff.1 hXB).1).trans hXB; have a0 := cells_at ca 0 _ rfl; have a1 := cells_at ca 1 _ rfl; have a2 := cells_at ca 2 _ rfl; have b0 := cells_at cb' 0 _ rfl; have b1 := cells_at cb' 1 _ rfl; have b2 := cells_at cb' 2 _ rfl; simp only [List.getElem_toArray, List.getElem_cons_zero, List.getElem_cons_succ] at a0 a1 a2 b0 b1 b2; go_simp; first | done | rfl); go_simp; refine hK _ ?_; clear hK K)
          refine yields_nil ?_
          refine anyP_one_w (k := 6) (by kernel_rfl) (by decide) rfl rfl (Below.refl _ _) (fun K hK => ?_)
          go_simp
          go_at_call 17
          have hrl := HL2.out.below HSX.out.bel
          refine (same_same x y _ _ L X hrl hrl).mono ?_
          rintro e w8 ⟨rfl, hb8⟩
          refine hK _ _ ?_
          clear hK K hrl
          refine anyP_more [7, 8, 9, 10, 11, 12, 13, 14, 15, 16, 17, 18, 19, 20, 21, 22, 23, 24, 25, 26, 27, 28, 29] (g := 0) (by kernel_rfl) rfl ?_
          change wpYields _ _ _ _ [_, _, _, _, _, _, _, _, _, _, _, _, _, _, _, _, _, _, _, _, _, _, _] _
          iterate 23 (refine yields_step (fun K hK => ?_); apply Exists.intro; apply And.intro; (first | (apply yields_at rfl; rintro W' hb; have cr := (hb.block rb (Array.getElem?_eq_some_iff.1 hXR).1).trans hXR; have r0 := cells_at cr 0 _ rfl; simp only [List.getElem_toArray, List.getElem_cons_zero] at r0; go_simp; first | done | rfl) | (apply yields_by 18 #[.pointer (some ⟨pb, 0, none⟩)] rfl; focus (rintro W' hb; refine ⟨?_, by have := bp_len (HSX.out.below hb); rw [HK2.out] at this; exact this.mono (fun e w h => ⟨h.1, h.2.symm⟩)⟩; go_simp; done)) | (apply yields_by 19 #[.pointer (some ⟨pb, 0, none⟩)] rfl; focus (rintro W' hb; refine ⟨?_, by have := bp_room (HSX.out.below hb); rw [HK2.out] at this; exact this.mono (fun e w h => ⟨h.1, h.2.symm⟩)⟩; go_simp; done))); go_simp; refine hK _ ?_; clear hK K)
          refine yields_nil ?_
          refine anyP_leaf hb8 (by kernel_rfl) ?_
          simp only [List.drop_succ_cons, List.drop_zero]
          have HN := Lib.hid (HSX.out.below hb8)
          clear hb8 HSX hXA hXB hXR
          go_wp2_with fail
          go_roundw
          case rel => exact ⟨k + 1, c', ms', by omega, by go_num, rfl, rfl, HN⟩
          case measure => simp [intOf]; omega
    · have hkk : ¬ (k : Int) < (M : Int) := by omega
      go_wp2_with fail
      refine (pworks_any _).mono ?_
      rintro e w9 ⟨rfl, hb9⟩
      go_wp2_with fail
      go_ret
      exact ⟨rfl, (HS.out.below hb9).bel⟩

theorem pipePlays_walk (room : Int) (v : Value) (l : List (Int × MsgP × Value)) (w : World) (_hroom : (Lit.int .i64 room).wf = true) (hr : Reads w v l.length (opCells (l.map opFlat))) (hi : ∀ o ∈ l, Reads w o.2.2 o.2.1.l.length (recCells o.2.1.l)) :
    Calls Try.prog 3 #[.int .i64 room, v] w fun e w' => e = .returned (.bool true) ∧ Below w.heap.size w w' := by
  have hlen := hr.lenLe
  unfold maxLen at hlen
  by_cases hl : l.length ≤ 300
  · by_cases hrm : 1 ≤ room ∧ room ≤ 8
    · obtain ⟨n, rfl⟩ : ∃ n : Nat, room = n := ⟨room.toNat, by omega⟩
      exact pipePlays_main n v l w (by omega) (by omega) hr hi hl
    · obtain ⟨sa, sc, rfl⟩ := hr.shape
      obtain ⟨M, hM⟩ : ∃ M, l.length = M := ⟨_, rfl⟩
      rw [hM] at hl
      rw [hM]
      clear hr hi hM hlen
      have hd : decide ((300 : Int) < (M : Int)) = false := by simp; omega
      go_enter Try.func3, Try.ntmps3
      go_wp2_with fail
      refine (new_bad room w (by omega)).mono ?_
      rintro e w1 ⟨rfl, rfl⟩
      go_wp2_with fail
      refine (refnew_bad room w (by omega)).mono ?_
      rintro e w1 ⟨rfl, rfl⟩
      go_wp2_with fail
      refine (pworks_any _).mono ?_
      rintro e w9 ⟨rfl, hb9⟩
      go_wp2_with fail
      go_ret
      exact ⟨rfl, hb9⟩
  · obtain ⟨sa, sc, rfl⟩ := hr.shape
    obtain ⟨M, hM⟩ : ∃ M, l.length = M := ⟨_, rfl⟩
    rw [hM] at hl hlen
    rw [hM]
    clear hr hi hM
    have hd : decide ((300 : Int) < (M : Int)) = true := by simp; omega
    go_enter Try.func3, Try.ntmps3
    go_wp2_with fail
    refine (pworks_any _).mono ?_
    rintro e w9 ⟨rfl, hb9⟩
    go_wp2_with fail
    go_ret
    exact ⟨rfl, hb9⟩

end Go.Proofs.Ytgoglcggnmfapaa
