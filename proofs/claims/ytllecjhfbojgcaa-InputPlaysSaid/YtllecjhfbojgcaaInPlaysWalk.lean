/-
  The walk through InputPlays.
-/
import Derived.Test.YtllecjhfbojgcaaInBoth
import Derived.Test.YtllecjhfbojgcaaInWorks
import Derived.Test.YtllecjhfbojgcaaBothDisk
import Derived.Test.YtllecjhfbojgcaaDiskHeavy
import Derived.Test.YtllecjhfbojgcaaArgsIop
import Derived.Deep.CutRange
namespace Go.Proofs.Ytllecjhfbojgcaa
open Go.RowKit
set_option maxRecDepth 20000

/-- Between two calls: both answered the same, and there are both inputs, or none. -/
def PSt (f : Fr) (d r j : Nat) (e g n m : Value) (w : World) : Prop :=
  ∃ x : Int, e = .int .i64 x ∧ g = .int .i64 x ∧
    ((n = .pointer none ∧ m = .pointer none ∧ ∃ D, Disks d r D f w ∧ D.loose.length ≤ 1000 + 3 * j) ∨
      ∃ nn l0 l1 mm q0 q1 lv sv mv S, n = .pointer (some ⟨nn, 0, none⟩) ∧ m = .pointer (some ⟨mm, 0, none⟩) ∧ Inputs d r nn l0 l1 mm q0 q1 lv sv mv S f w ∧ PFit j S)
theorem PSt.disks {f : Fr} {d r j : Nat} {e g n m : Value} {w : World} (h : PSt f d r j e g n m w) : ∃ D, Disks d r D f w ∧ D.loose.length ≤ 1000 + 3 * j := by
  obtain ⟨x, -, -, ⟨-, -, D, h1, h2⟩ | ⟨nn, l0, l1, mm, q0, q1, lv, sv, mv, S, -, -, h1, h2⟩⟩ := h
  · exact ⟨D, h1, h2⟩
  · exact ⟨S.D, h1.disks, h2.m⟩
theorem PSt.box {f : Fr} {d r j : Nat} {e g n m : Value} {w w1 : World} (h : PSt f d r j e g n m w) (hb : Below w.heap.size w w1) (b : Nat) (hbw : w.heap.size ≤ b) (hb1 : b < w1.heap.size) :
    ∃ f1 : Fr, PSt f1 d r j e g n m w1 ∧ ∀ (P' Q' : Fr → World → Prop) w', Two2 P' Q' f1 w' → Two2 P' Q' f w' ∧ w'.heap[b]? = w1.heap[b]? := by
  obtain ⟨x, he, hg, ⟨hn, hm, D, h1, h2⟩ | ⟨nn, l0, l1, mm, q0, q1, lv, sv, mv, S, hn, hm, h1, h2⟩⟩ := h
  · obtain ⟨f1, h3, h4⟩ := Two2.box h1 hb b hbw hb1
    exact ⟨f1, ⟨x, he, hg, .inl ⟨hn, hm, D, h3, h2⟩⟩, h4⟩
  · obtain ⟨f1, h3, h4⟩ := Two2.box h1 hb b hbw hb1
    exact ⟨f1, ⟨x, he, hg, .inr ⟨nn, l0, l1, mm, q0, q1, lv, sv, mv, S, hn, hm, h3, h2⟩⟩, h4⟩
theorem PSt.old {f : Fr} {d r j : Nat} {e g n m : Value} {w : World} (h : PSt f d r j e g n m w) : Since f w := by
  obtain ⟨D, h1, -⟩ := h.disks
  exact Two2.old h1
theorem PSt.below {f : Fr} {d r j : Nat} {e g n m : Value} {w w1 : World} (h : PSt f d r j e g n m w) (hb : Below w.heap.size w w1) : PSt f d r j e g n m w1 := by
  obtain ⟨x, he, hg, ⟨hn, hm, D, h1, h2⟩ | ⟨nn, l0, l1, mm, q0, q1, lv, sv, mv, S, hn, hm, h1, h2⟩⟩ := h
  · exact ⟨x, he, hg, .inl ⟨hn, hm, D, Two2.below h1 hb, h2⟩⟩
  · exact ⟨x, he, hg, .inr ⟨nn, l0, l1, mm, q0, q1, lv, sv, mv, S, hn, hm, Two2.below h1 hb, h2⟩⟩

set_option maxHeartbeats 16000000 in
set_option maxRecDepth 100000 in
theorem inputPlays_walk (room : Int) (v : Value) (l : List Dop) (u : Value) (s : List Iop) (w : World) (_hroom : (Lit.int .i64 room).wf = true) (hr : Reads w v l.length (dopCells l)) (hi : ∀ r ∈ l, (Lit.int .i64 r.f).wf = true ∧ (Lit.int .i64 r.n).wf = true ∧ (Lit.int .i64 r.m).wf = true ∧ r.s.size ≤ maxLen) (hs : Reads w u s.length (iopCells s)) (hsi : ∀ r ∈ s, IopIn r) :
    Calls Try.prog 7 #[.int .i64 room, v, u] w fun e w' => e = .returned (.bool true) ∧ Below w.heap.size w w' := by
  have hlen := hr.lenLe
  unfold maxLen at hlen
  have hslen := hs.lenLe
  unfold maxLen at hslen
  have HR := Lib.hid hr
  have HI := Lib.hid hi
  have HS := Lib.hid hs
  have HSI := Lib.hid hsi
  have hhv := heavy_any _ l w hr (fun r hr => (hi r hr).2.2.2)
  obtain ⟨a, c, rfl⟩ := hr.shape
  obtain ⟨sa, sc, rfl⟩ := hs.shape
  clear hr hi hs hsi
  obtain ⟨m, hm⟩ : ∃ m, l.length = m := ⟨_, rfl⟩
  have HM := Lib.hid hm
  rw [hm] at hlen hhv
  rw [hm]
  obtain ⟨q, hq⟩ : ∃ q, s.length = q := ⟨_, rfl⟩
  have HQ := Lib.hid hq
  rw [hq] at hslen
  rw [hq]
  have HHV := Lib.hid hhv
  clear hm hhv hq
  go_enter Try.func7, Try.ntmps7
  go_wp2_with fail
  refine HHV.out.mono ?_
  rintro e w1 (⟨rfl, hm3, hb1⟩ | ⟨rfl, hb1⟩)
  rotate_left
  · have HB1 := Lib.hid hb1
    clear hb1
    go_wp2_with fail
    refine (inworks_any _).mono ?_
    rintro e w9 ⟨rfl, hb9⟩
    go_wp2_with fail
    go_ret
    exact ⟨rfl, bel_trans HB1.out hb9⟩
  have HB1 := Lib.hid hb1
  clear hb1
  by_cases h700 : 700 < q
  · have hd7 : decide ((700 : Int) < (q : Int)) = true := by simp; omega
    have hd72 : (700 : Int) < (q : Int) := by omega
    clear h700
    go_wp2_with fail
    refine (inworks_any _).mono ?_
    rintro e w9 ⟨rfl, hb9⟩
    go_wp2_with fail
    go_ret
    exact ⟨rfl, bel_trans HB1.out hb9⟩
  have hq7 : q ≤ 700 := by omega
  have hd72 : ¬ (700 : Int) < (q : Int) := by omega
  clear h700
  by_cases hrm : 1 ≤ room ∧ room ≤ 4194304
  rotate_left
  · go_wp2_with fail
    refine (new_bad room w1 hrm).mono ?_
    rintro e w2 ⟨rfl, rfl⟩
    go_wp2_with fail
    refine (rnew_bad room w1 hrm).mono ?_
    rintro e w3 ⟨rfl, rfl⟩
    go_wp2_with fail
    refine (inworks_any _).mono ?_
    rintro e w9 ⟨rfl, hb9⟩
    go_wp2_with fail
    go_ret
    exact ⟨rfl, bel_trans HB1.out hb9⟩
  obtain ⟨rm, rfl⟩ : ∃ n : Nat, room = n := ⟨room.toNat, by omega⟩
  go_wp2_with fail
  refine (new_ok rm w1 ⟨by omega, by omega⟩).mono ?_
  rintro e w2 ⟨rfl, hb2, hd2, hs2⟩
  have HB2 := Lib.hid hb2
  have HD2 := Lib.hid hd2
  unfold ptr
  clear hb2 hd2 hs2
  go_wp2_with fail
  refine (rnew_ok rm w2 ⟨by omega, by omega⟩).mono ?_
  rintro e w3 ⟨rfl, hb3, hr3, hs3⟩
  have hboth := BothD.ofNew (w := w) (bel_trans HB1.out HB2.out) HD2.out HB1.out.size hb3 hr3 (Nat.le_refl _)
  obtain ⟨d, hd⟩ : ∃ d, w1.heap.size = d := ⟨_, rfl⟩
  obtain ⟨r, hrr⟩ : ∃ r, w2.heap.size = r := ⟨_, rfl⟩
  rw [hd, hrr] at hboth
  rw [hd, hrr]
  have HBO := Lib.hid hboth
  unfold ptr
  clear hboth hb3 hr3 hs3 hd hrr
  go_wp2_with fail
  go_loopw [54] (fun i wr => ∃ (j : Nat) (S : Dk.St), j ≤ m ∧ i = .int .i64 (j : Int) ∧ Hid (BothD w wr d r S S (fun _ => False)) ∧ S.loose.length ≤ j) (fun i _ => m - (intOf i).toNat)
  case atStart => exact ⟨0, _, Nat.zero_le _, rfl, HBO, Nat.le_refl _⟩
  case round =>
    obtain ⟨j, S, hj, rfl, HSB, hLj⟩ := hrel
    by_cases hlt : j < m
    · as_aux_lemma =>
        obtain ⟨x, hx⟩ : ∃ x, l[j]? = some x := ⟨l[j]'(by rw [HM.out]; omega), by simp⟩
        have hrr := HR.out
        obtain ⟨b, o, hae, hblt, r0, r1, r2, r3, r4⟩ := reads5 hrr j x hx
        subst hae
        have hbl := HSB.out.bel
        have r0 := (World.cell?_of_block (hbl.block b hblt)).trans r0
        have r1 := (World.cell?_of_block (hbl.block b hblt)).trans r1
        have r2 := (World.cell?_of_block (hbl.block b hblt)).trans r2
        have r3 := (World.cell?_of_block (hbl.block b hblt)).trans r3
        have r4 := (World.cell?_of_block (hbl.block b hblt)).trans r4
        have hjk : (j : Int) < (m : Int) := by omega
        have HN := Lib.hid (bounds_i64 (HI.out x (List.mem_of_getElem? hx)).2.1)
        clear hbl hx hrr
        obtain ⟨xk, xf, xn, xm, xs⟩ := x
        simp only at r0 r1 r2 r3 r4
        obtain ⟨S2, hS2⟩ : ∃ y, stepOp S ⟨xk, xf, xn, xm, xs⟩ = y := ⟨_, rfl⟩
        have hL2 : S2.loose.length ≤ j + 1 := by rw [← hS2]; have := step_len S ⟨xk, xf, xn, xm, xs⟩; omega
        have hdo := does_any (HSB.out.below (bel_alloc wr (.cells #[.int .i64 xk, .int .i64 xf, .int .i64 xn, .int .i64 xm, .string xs] 51))) xk xf xn xm xs (by omega) (show xn ≤ 9223372036854775807 from HN.out.2)
        rw [hS2] at hdo
        have HDO := Lib.hid hdo
        have HL2 := Lib.hid hL2
        clear hS2 hdo hL2
        unfold ptr at HDO
        go_wp2_with fail
        refine HDO.out.mono ?_
        rintro e w5 ⟨rfl, h5⟩
        have H5 := Lib.hid h5
        clear h5 r0 r1 r2 r3 r4
        go_wp2_with fail
        go_roundw
        case rel => exact ⟨j + 1, S2, by omega, by go_num, H5, HL2.out⟩
        case measure => simp [intOf]; omega
    · have hjj : ¬ (j : Int) < (m : Int) := by omega
      have HDK := Lib.hid (Disks.ofBoth HSB.out)
      have HOK := Lib.hid (HSB.out.okD)
      have HLO := Lib.hid (show S.loose.length ≤ 1000 + 3 * 0 ∧ S.loose.length ≤ 900000000 from ⟨by omega, by omega⟩)
      clear hlt hLj
      go_upto_region 13 with fail
      go_cut [8, 13] from 22 to 233 (fun e8 n13 wx => ∃ (x : Int) (D' : Dk.St) (o : Option InSt), Opened S x D' o ∧ e8 = .int .i64 x ∧ ((o = none ∧ n13 = .pointer none ∧ Hid (Two2 (fun f w => LiveF f w d D') (fun f w => RLiveF f w r S) (Fr.all w) wx)) ∨ ∃ S' n l0 l1 lv, o = some S' ∧ x = 0 ∧ n13 = .pointer (some ⟨n, 0, none⟩) ∧ Hid (Two2 (fun f w => InLive f w n d l0 l1 lv S') (fun f w => RLiveF f w r S) (Fr.all w) wx)))
      case first =>
        as_aux_lemma =>
          go_wp2_with fail
          refine (open1 HDK.out HLO.out.2).mono ?_
          rintro e w5 ⟨xe, D5, o5, ho5, ⟨rfl, rfl, h5⟩ | ⟨S5, n5, a5, b5, lv5, rfl, rfl, hD5, rfl, h5⟩⟩
          · have H5 := Lib.hid h5
            have HO5 := Lib.hid ho5
            clear h5 ho5
            go_wp2_with fail
            go_meet
            case rel => exact ⟨xe, D5, none, HO5.out, rfl, .inl ⟨rfl, rfl, H5⟩⟩
          · have H5 := Lib.hid h5
            have HO5 := Lib.hid ho5
            clear h5 ho5
            unfold ptr
            go_wp2_with fail
            go_meet
            case rel => exact ⟨0, D5, some S5, HO5.out, rfl, .inr ⟨S5, n5, a5, b5, lv5, rfl, rfl, rfl, H5⟩⟩
      case rest =>
        obtain ⟨xe, D5, o5, ho5, he8, hst⟩ := hcut
        subst he8
        have HO5 := Lib.hid ho5
        have HFIT := Lib.hid (ho5.fit HOK.out HLO.out.1)
        clear ho5
        go_upto_region 14 with fail
        go_cut [10, 14] from 22 to 233 (fun f10 m14 wx => Hid (PSt (Fr.all w) d r 1 (.int .i64 xe) f10 u13 m14 wx))
        case first =>
          as_aux_lemma =>
            rcases hst with ⟨rfl, rfl, H5⟩ | ⟨S5, n5, a5, b5, lv5, rfl, rfl, rfl, H5⟩
            · go_wp2_with fail
              refine (open2_none HO5.out H5.out HOK.out HLO.out.2).mono ?_
              rintro e w6 ⟨rfl, h6⟩
              have H6 := Lib.hid (show PSt (Fr.all w) d r 1 (.int .i64 xe) (.int .i64 xe) (.pointer none) (.pointer none) w6 from ⟨xe, rfl, rfl, .inl ⟨rfl, rfl, D5, h6, HFIT.out.1⟩⟩)
              clear h6
              go_wp2_with fail
              go_meet
              case rel => exact H6
            · go_wp2_with fail
              refine (open2_some HO5.out H5.out HOK.out HLO.out.2).mono ?_
              rintro e w6 ⟨m6, c6, e6, sv6, mv6, rfl, h6⟩
              have H6 := Lib.hid (show PSt (Fr.all w) d r 1 (.int .i64 0) (.int .i64 0) (.pointer (some ⟨n5, 0, none⟩)) (.pointer (some ⟨m6, 0, none⟩)) w6 from ⟨0, rfl, rfl, .inr ⟨n5, a5, b5, m6, c6, e6, lv5, sv6, mv6, S5, rfl, rfl, h6, HFIT.out.2 S5 rfl⟩⟩)
              clear h6
              unfold ptr
              go_wp2_with fail
              go_meet
              case rel => exact H6
        case rest =>
          have HP0 := hcut
          clear hst hcut HFIT HO5 HDK HLO HOK HSB
          go_wp2_with fail
          go_loopw [8, 10, 13, 14, 76] (fun e8 f10 n13 m14 i wr => ∃ j : Nat, j ≤ q ∧ i = .int .i64 (j : Int) ∧ Hid (PSt (Fr.all w) d r (j + 1) e8 f10 n13 m14 wr)) (fun _ _ _ _ i _ => q - (intOf i).toNat)
          case atStart => exact ⟨0, Nat.zero_le _, rfl, HP0⟩
          case round =>
            clear HP0
            obtain ⟨j, hj, rfl, HP⟩ := hrel
            by_cases hlt : j < q
            · obtain ⟨x, hx⟩ : ∃ x, s[j]? = some x := ⟨s[j]'(by rw [HQ.out]; omega), by simp⟩
              have hrr := HS.out
              obtain ⟨b, o, hae, hblt, r0, r1, r2, r3, r4, r5⟩ := reads6 hrr j x hx
              subst hae
              have hbl := HP.out.old.bel
              have r0 := (World.cell?_of_block (hbl.block b hblt)).trans r0
              have r1 := (World.cell?_of_block (hbl.block b hblt)).trans r1
              have r2 := (World.cell?_of_block (hbl.block b hblt)).trans r2
              have r3 := (World.cell?_of_block (hbl.block b hblt)).trans r3
              have r4 := (World.cell?_of_block (hbl.block b hblt)).trans r4
              have r5 := (World.cell?_of_block (hbl.block b hblt)).trans r5
              have hjk : (j : Int) < (q : Int) := by omega
              obtain ⟨w1', w2', w4', w5'⟩ := HSI.out x (List.mem_of_getElem? hx)
              have HN := Lib.hid (bounds_i64 w1')
              have HK4 := Lib.hid (bounds_i64 w4')
              have HK5 := Lib.hid (bounds_i64 w5')
              clear hbl hx hrr w1' w2' w4' w5'
              obtain ⟨xk, xn, xm, ⟨xp, xy, xv⟩⟩ := x
              simp only at r0 r1 r2 r3 r4 r5
              go_upto_region 18 with fail
              have hbx := heap_alloc_new wr (.cells #[.int .i64 xk, .int .i64 xn, .int .i64 xm, .int .i64 xp, .int .i64 xy, .int .i64 xv] 57)
              have hbV := bel_alloc wr (.cells #[.int .i64 xk, .int .i64 xn, .int .i64 xm, .int .i64 xp, .int .i64 xy, .int .i64 xv] 57)
              obtain ⟨f1, hp1, hback⟩ := HP.out.box hbV wr.heap.size (Nat.le_refl _) (by simp)
              obtain ⟨V, hV⟩ : ∃ V, wr.alloc (.cells #[.int .i64 xk, .int .i64 xn, .int .i64 xm, .int .i64 xp, .int .i64 xy, .int .i64 xv] 57) = V := ⟨_, rfl⟩
              rw [hV] at hbx hbV hp1 hback ⊢
              obtain ⟨bx, hbxx⟩ : ∃ bx, wr.heap.size = bx := ⟨_, rfl⟩
              rw [hbxx] at hbx hback
              try rw [hbxx]
              have hbxlt := (Array.getElem?_eq_some_iff.1 hbx).1
              have HBX := Lib.hid hbx
              have HP1 := Lib.hid hp1
              have HBACK := Lib.hid hback
              clear r0 r1 r2 r3 r4 r5 hbx hbV hp1 hback hV hbxx HP
              go_cut [108] from 77 to 169 (fun c wx => c = .bool false ∧ Hid (Below V.heap.size V wx))
              case first =>
                as_aux_lemma =>
                  obtain ⟨D, hds, -⟩ := HP1.out.disks
                  have HQ2 := Lib.hid (fun (W' : World) (hb : Below V.heap.size V W') => Disks.quiet (Two2.below hds hb))
                  obtain ⟨-, -, ⟨la33, lc33, k33⟩, k34, -, hrlt⟩ := Disks.quiet hds
                  obtain ⟨x, rfl, rfl, ⟨rfl, rfl, -⟩ | ⟨nn, l0, l1, mm, q0, q1, lv, sv, mv, S, rfl, rfl, -⟩⟩ := HP1.out
                  · clear hds
                    go_wp2_with fail
                    go_quiet ((first | (go_at_call 25; exact Calls.quiet_of_same (HQ2.out _ (bel_drewN _ _)).1) | (go_at_call 26; exact Calls.quiet_of_same (HQ2.out _ (bel_drewN _ _)).2.1)))
                    go_wp2_with fail
                    go_meet
                    case rel => exact ⟨rfl, Lib.hid (bel_drewN _ _)⟩
                  · clear hds
                    go_wp2_with fail
                    go_quiet ((first | (go_at_call 25; exact Calls.quiet_of_same (HQ2.out _ (bel_drewN _ _)).1) | (go_at_call 26; exact Calls.quiet_of_same (HQ2.out _ (bel_drewN _ _)).2.1)))
                    go_wp2_with fail
                    go_meet
                    case rel => exact ⟨rfl, Lib.hid (bel_drewN _ _)⟩
              case rest =>
                obtain ⟨hc108, HBW⟩ := hcut
                subst hc108
                have HP2 := Lib.hid (HP1.out.below HBW.out)
                have hbxW := (HBW.out.block bx hbxlt).trans HBX.out
                have b0 := cells_at hbxW 0 _ rfl
                have b1 := cells_at hbxW 1 _ rfl
                have b2 := cells_at hbxW 2 _ rfl
                simp only [List.getElem_toArray, List.getElem_cons_zero, List.getElem_cons_succ] at b0 b1 b2
                have HBXW := Lib.hid hbxW
                clear hbxW HP1
                by_cases k1 : xk = 1
                · as_aux_lemma =>
                    subst k1
                    obtain ⟨x, rfl, rfl, ⟨rfl, rfl, D, hds, hlo⟩ | ⟨nn, l0, l1, mm, q0, q1, lv, sv, mv, S, rfl, rfl, hin, hpf⟩⟩ := HP2.out
                    · go_wp2_with fail
                      refine (ds_power1 hds xn HN.out.2).mono ?_
                      rintro e w5 ⟨rfl, h5⟩
                      have hb5 := (HBACK.out _ _ _ h5).2.trans HBX.out
                      have b1' := cells_at hb5 1 _ rfl
                      simp only [List.getElem_toArray, List.getElem_cons_zero, List.getElem_cons_succ] at b1'
                      have H5 := Lib.hid h5
                      clear hb5 h5 b0 b1 b2 hds
                      go_wp2_with fail
                      refine (ds_power2 H5.out xn HN.out.2).mono ?_
                      rintro e w6 ⟨rfl, h6⟩
                      have H6 := Lib.hid (show PSt (Fr.all w) d r (j + 2) (.int .i64 x) (.int .i64 x) (.pointer none) (.pointer none) w6 from ⟨x, rfl, rfl, .inl ⟨rfl, rfl, _, (HBACK.out _ _ _ h6).1, by rw [power_loose]; omega⟩⟩)
                      clear h6 b1'
                      go_wp2_with fail
                      go_roundw
                      case rel => exact ⟨j + 1, by omega, by go_num, H6⟩
                      case measure => simp [intOf]; omega
                    · go_wp2_with fail
                      refine (is_power1 hin xn HN.out.2).mono ?_
                      rintro e w5 ⟨rfl, h5⟩
                      have hb5 := (HBACK.out _ _ _ h5).2.trans HBX.out
                      have b1' := cells_at hb5 1 _ rfl
                      simp only [List.getElem_toArray, List.getElem_cons_zero, List.getElem_cons_succ] at b1'
                      have H5 := Lib.hid h5
                      have HPF := Lib.hid hpf
                      clear hb5 h5 b0 b1 b2 hin hpf
                      go_wp2_with fail
                      refine (is_power2 H5.out xn HN.out.2).mono ?_
                      rintro e w6 ⟨rfl, h6⟩
                      have H6 := Lib.hid (show PSt (Fr.all w) d r (j + 2) (.int .i64 x) (.int .i64 x) (.pointer (some ⟨nn, 0, none⟩)) (.pointer (some ⟨mm, 0, none⟩)) w6 from ⟨x, rfl, rfl, .inr ⟨nn, l0, l1, mm, q0, q1, lv, sv, mv, _, rfl, rfl, (HBACK.out _ _ _ h6).1, by
                        have h9 := HPF.out.mono (show j + 1 ≤ j + 2 by omega)
                        exact ⟨h9.n, by show (Dk.power S.D xn).2.loose.length ≤ _; rw [power_loose]; exact h9.m, h9.b0, h9.b1, h9.p⟩⟩⟩)
                      clear h6 b1'
                      go_wp2_with fail
                      go_roundw
                      case rel => exact ⟨j + 1, by omega, by go_num, H6⟩
                      case measure => simp [intOf]; omega
                have hk1 : (xk == 1) = false := by simpa using k1
                by_cases k2 : xk = 2
                · as_aux_lemma =>
                    subst k2
                    obtain ⟨D, hds, hlo⟩ := HP2.out.disks
                    have HDS := Lib.hid hds
                    clear hds k1
                    go_wp2_with fail
                    refine (ds_crash1 HDS.out xn xm).mono ?_
                    rintro e w5 ⟨rfl, h5⟩
                    have hb5 := (HBACK.out _ _ _ h5).2.trans HBX.out
                    have b1' := cells_at hb5 1 _ rfl
                    have b2' := cells_at hb5 2 _ rfl
                    simp only [List.getElem_toArray, List.getElem_cons_zero, List.getElem_cons_succ] at b1' b2'
                    have H5 := Lib.hid h5
                    clear hb5 h5 b0 b1 b2
                    go_wp2_with fail
                    refine (ds_crash2 H5.out xn xm).mono ?_
                    rintro e w6 ⟨rfl, h6⟩
                    have hb6 := (HBACK.out _ _ _ h6).2.trans HBX.out
                    have b0' := cells_at hb6 0 _ rfl
                    simp only [List.getElem_toArray, List.getElem_cons_zero] at b0'
                    have HOK := Lib.hid (Dk.crash_ok (Disks.quiet HDS.out).2.2.2.2.1 xn xm)
                    have HDK := Lib.hid (show Disks d r (Dk.crash D xn xm) f1 w6 from h6)
                    have HLO := Lib.hid (show (Dk.crash D xn xm).loose.length ≤ 1000 + 3 * (j + 1) ∧ (Dk.crash D xn xm).loose.length ≤ 900000000 from ⟨Nat.zero_le _, Nat.zero_le _⟩)
                    clear hb6 h6 b1' b2' hlo
                    go_wp2_with fail
                    refine (open1 HDK.out HLO.out.2).mono ?_
                    rintro e w5 ⟨xe, D5, o5, ho5, ⟨rfl, rfl, h5⟩ | ⟨S5, n5, a5, b5, lv5, rfl, rfl, hD5, rfl, h5⟩⟩
                    · have hfit := ho5.fit HOK.out HLO.out.1
                      have HO5 := Lib.hid ho5
                      have HFIT := Lib.hid hfit
                      have H5 := Lib.hid h5
                      clear ho5 hfit h5
                      go_wp2_with fail
                      refine (open2_none HO5.out H5.out HOK.out HLO.out.2).mono ?_
                      rintro e w6 ⟨rfl, h6⟩
                      have H6 := Lib.hid (show PSt (Fr.all w) d r (j + 2) (.int .i64 xe) (.int .i64 xe) (.pointer none) (.pointer none) w6 from ⟨xe, rfl, rfl, .inl ⟨rfl, rfl, D5, (HBACK.out _ _ _ h6).1, HFIT.out.1⟩⟩)
                      clear h6
                      go_wp2_with fail
                      go_roundw
                      case rel => exact ⟨j + 1, by omega, by go_num, H6⟩
                      case measure => simp [intOf]; omega
                    · have hfit := ho5.fit HOK.out HLO.out.1
                      have HO5 := Lib.hid ho5
                      have HFIT := Lib.hid hfit
                      have H5 := Lib.hid h5
                      clear ho5 hfit h5
                      unfold ptr
                      go_wp2_with fail
                      refine (open2_some HO5.out H5.out HOK.out HLO.out.2).mono ?_
                      rintro e w6 ⟨m6, c6, e6, sv6, mv6, rfl, h6⟩
                      have H6 := Lib.hid (show PSt (Fr.all w) d r (j + 2) (.int .i64 0) (.int .i64 0) (.pointer (some ⟨n5, 0, none⟩)) (.pointer (some ⟨m6, 0, none⟩)) w6 from ⟨0, rfl, rfl, .inr ⟨n5, a5, b5, m6, c6, e6, lv5, sv6, mv6, S5, rfl, rfl, (HBACK.out _ _ _ h6).1, HFIT.out.2 S5 rfl⟩⟩)
                      clear h6
                      unfold ptr
                      go_wp2_with fail
                      go_roundw
                      case rel => exact ⟨j + 1, by omega, by go_num, H6⟩
                      case measure => simp [intOf]; omega
                have hk2 : (xk == 2) = false := by simpa using k2
                by_cases k0 : xk = 0
                · subst k0
                  obtain ⟨x, rfl, rfl, ⟨rfl, rfl, D, hds, hlo⟩ | ⟨nn, l0, l1, mm, q0, q1, lv, sv, mv, S, rfl, rfl, hin, hpf⟩⟩ := HP2.out
                  · as_aux_lemma =>
                      have HOK := Lib.hid (Disks.quiet hds).2.2.2.2.1
                      have HDK := Lib.hid hds
                      have HLO := Lib.hid (show D.loose.length ≤ 1000 + 3 * (j + 1) ∧ D.loose.length ≤ 900000000 from ⟨hlo, by omega⟩)
                      clear hds hlo k1 k2
                      go_wp2_with fail
                      refine (open1 HDK.out HLO.out.2).mono ?_
                      rintro e w5 ⟨xe, D5, o5, ho5, ⟨rfl, rfl, h5⟩ | ⟨S5, n5, a5, b5, lv5, rfl, rfl, hD5, rfl, h5⟩⟩
                      · have hfit := ho5.fit HOK.out HLO.out.1
                        have HO5 := Lib.hid ho5
                        have HFIT := Lib.hid hfit
                        have H5 := Lib.hid h5
                        clear ho5 hfit h5
                        go_wp2_with fail
                        refine (open2_none HO5.out H5.out HOK.out HLO.out.2).mono ?_
                        rintro e w6 ⟨rfl, h6⟩
                        have H6 := Lib.hid (show PSt (Fr.all w) d r (j + 2) (.int .i64 xe) (.int .i64 xe) (.pointer none) (.pointer none) w6 from ⟨xe, rfl, rfl, .inl ⟨rfl, rfl, D5, (HBACK.out _ _ _ h6).1, HFIT.out.1⟩⟩)
                        clear h6
                        go_wp2_with fail
                        go_roundw
                        case rel => exact ⟨j + 1, by omega, by go_num, H6⟩
                        case measure => simp [intOf]; omega
                      · have hfit := ho5.fit HOK.out HLO.out.1
                        have HO5 := Lib.hid ho5
                        have HFIT := Lib.hid hfit
                        have H5 := Lib.hid h5
                        clear ho5 hfit h5
                        unfold ptr
                        go_wp2_with fail
                        refine (open2_some HO5.out H5.out HOK.out HLO.out.2).mono ?_
                        rintro e w6 ⟨m6, c6, e6, sv6, mv6, rfl, h6⟩
                        have H6 := Lib.hid (show PSt (Fr.all w) d r (j + 2) (.int .i64 0) (.int .i64 0) (.pointer (some ⟨n5, 0, none⟩)) (.pointer (some ⟨m6, 0, none⟩)) w6 from ⟨0, rfl, rfl, .inr ⟨n5, a5, b5, m6, c6, e6, lv5, sv6, mv6, S5, rfl, rfl, (HBACK.out _ _ _ h6).1, HFIT.out.2 S5 rfl⟩⟩)
                        clear h6
                        unfold ptr
                        go_wp2_with fail
                        go_roundw
                        case rel => exact ⟨j + 1, by omega, by go_num, H6⟩
                        case measure => simp [intOf]; omega
                  · as_aux_lemma =>
                      have HPF := Lib.hid hpf
                      have HIN := Lib.hid hin
                      clear hin hpf k1 k2
                      go_upto_region 29 with fail
                      clear b0 b1 b2
                      refine wp_region_free [0, 1, 2, 4, 5, 6] 8 (fun W' => W'.heap[bx]? = some (.cells #[.int .i64 0, .int .i64 xn, .int .i64 xm, .int .i64 xp, .int .i64 xy, .int .i64 xv] 57)) (by kernel_rfl) (by kernel_rfl) ?_
                      change wpYields _ _ _ _ [_, _, _, _, _, _] _
                      iterate 6 (refine yields_step (fun K hK => ?_); apply Exists.intro; apply And.intro; (apply yields_at rfl; rintro W' hb; have c3 := cells_at hb 3 _ rfl; have c4 := cells_at hb 4 _ rfl; have c5 := cells_at hb 5 _ rfl; simp only [List.getElem_toArray, List.getElem_cons_zero, List.getElem_cons_succ] at c3 c4 c5; go_simp; first | done | rfl); go_simp; refine hK _ ?_; clear hK K)
                      refine yields_nil ?_
                      refine anyP_one (k := 3) (by kernel_rfl) (by decide) rfl rfl HBXW.out ?_
                      refine wpP_step rfl (fun K hK => ?_)
                      go_simp
                      go_at_call 15
                      refine (is_add1 (x := ⟨xp, xy, xv⟩) (Two2.below HIN.out (bel_drew wc)) HPF.out (by omega) HK4.out HK5.out).mono ?_
                      rintro e w5 ⟨lv5, rfl, h5⟩
                      have hb5 := (HBACK.out _ _ _ h5).2.trans HBX.out
                      refine hK _ _ ?_
                      clear hK K
                      refine anyP_one (k := 7) (by kernel_rfl) (by decide) rfl rfl hb5 ?_
                      refine wpP_step rfl (fun K hK => ?_)
                      go_simp
                      go_at_call 29
                      refine (is_add2 (x := ⟨xp, xy, xv⟩) h5 HPF.out (by omega) HK4.out HK5.out).mono ?_
                      rintro e w6 ⟨mv6, rfl, h6⟩
                      have hb6 := (HBACK.out _ _ _ h6).2.trans HBX.out
                      refine hK _ _ ?_
                      clear hK K
                      refine anyP_leaf hb6 (by kernel_rfl) ?_
                      simp only [List.drop_succ_cons, List.drop_zero]
                      have hadd := HPF.out.add ⟨xp, xy, xv⟩
                      obtain ⟨E, T, hET⟩ : ∃ E T, S.add ⟨xp, xy, xv⟩ = (E, T) := ⟨_, _, rfl⟩
                      rw [hET] at h6 hadd ⊢
                      have H6 := Lib.hid (show Inputs d r nn l0 l1 mm q0 q1 lv5 sv mv6 T f1 w6 from h6)
                      have HADD := Lib.hid (show PFit (j + 2) T from hadd)
                      obtain ⟨hcm, hrm, -⟩ := (Two2.snd H6.out).cells
                      obtain ⟨la6, lc6, rfl⟩ := (Reads.own hrm).shape
                      have c1 := cells_at hcm 1 _ rfl
                      simp only [List.getElem_toArray, List.getElem_cons_zero, List.getElem_cons_succ] at c1
                      have hTl : T.rs.length ≤ 500 := hadd.n
                      have HLEN := Lib.hid (fun (W' : World) (hb : Below w6.heap.size w6 W') => in_len (Two2.fst (Two2.below H6.out hb)))
                      clear hET h5 hb5 h6 hb6 hadd hcm hrm
                      go_wp2_with fail
                      go_quiet ((go_at_call 18; exact Calls.quiet_of_same ((HLEN.out _ (bel_drewN _ _)).mono (fun e w' h => ⟨h.1, h.2.symm⟩))))
                      go_wp2_with fail
                      have H7 := Lib.hid (show ∀ W', Below w6.heap.size w6 W' → PSt (Fr.all w) d r (j + 2) (.int .i64 E) (.int .i64 E) (.pointer (some ⟨nn, 0, none⟩)) (.pointer (some ⟨mm, 0, none⟩)) W' from fun W' hb => ⟨E, rfl, rfl, .inr ⟨nn, l0, l1, mm, q0, q1, lv5, sv, _, T, rfl, rfl, (HBACK.out _ _ _ (Two2.below H6.out hb)).1, HADD.out⟩⟩)
                      go_roundw
                      case rel => exact ⟨j + 1, by omega, by go_num, Lib.hid (H7.out _ (bel_drewN _ _))⟩
                      case measure => simp [intOf]; omega
                as_aux_lemma =>
                  have hk0 : (xk == 0) = false := by simpa using k0
                  have hk0' : (xk != 0) = true := by simpa using k0
                  obtain ⟨D, hds, hlo⟩ := HP2.out.disks
                  have HOK := Lib.hid (Disks.quiet hds).2.2.2.2.1
                  have HDK := Lib.hid hds
                  have HLO := Lib.hid (show D.loose.length ≤ 1000 + 3 * (j + 1) ∧ D.loose.length ≤ 900000000 from ⟨hlo, by omega⟩)
                  clear hds hlo k1 k2 k0
                  go_wp2_with fail
                  refine (open1 HDK.out HLO.out.2).mono ?_
                  rintro e w5 ⟨xe, D5, o5, ho5, ⟨rfl, rfl, h5⟩ | ⟨S5, n5, a5, b5, lv5, rfl, rfl, hD5, rfl, h5⟩⟩
                  · have hfit := ho5.fit HOK.out HLO.out.1
                    have HO5 := Lib.hid ho5
                    have HFIT := Lib.hid hfit
                    have H5 := Lib.hid h5
                    clear ho5 hfit h5
                    go_wp2_with fail
                    refine (open2_none HO5.out H5.out HOK.out HLO.out.2).mono ?_
                    rintro e w6 ⟨rfl, h6⟩
                    have H6 := Lib.hid (show PSt (Fr.all w) d r (j + 2) (.int .i64 xe) (.int .i64 xe) (.pointer none) (.pointer none) w6 from ⟨xe, rfl, rfl, .inl ⟨rfl, rfl, D5, (HBACK.out _ _ _ h6).1, HFIT.out.1⟩⟩)
                    clear h6
                    go_wp2_with fail
                    go_roundw
                    case rel => exact ⟨j + 1, by omega, by go_num, H6⟩
                    case measure => simp [intOf]; omega
                  · have hfit := ho5.fit HOK.out HLO.out.1
                    have HO5 := Lib.hid ho5
                    have HFIT := Lib.hid hfit
                    have H5 := Lib.hid h5
                    clear ho5 hfit h5
                    unfold ptr
                    go_wp2_with fail
                    refine (open2_some HO5.out H5.out HOK.out HLO.out.2).mono ?_
                    rintro e w6 ⟨m6, c6, e6, sv6, mv6, rfl, h6⟩
                    have H6 := Lib.hid (show PSt (Fr.all w) d r (j + 2) (.int .i64 0) (.int .i64 0) (.pointer (some ⟨n5, 0, none⟩)) (.pointer (some ⟨m6, 0, none⟩)) w6 from ⟨0, rfl, rfl, .inr ⟨n5, a5, b5, m6, c6, e6, lv5, sv6, mv6, S5, rfl, rfl, (HBACK.out _ _ _ h6).1, HFIT.out.2 S5 rfl⟩⟩)
                    clear h6
                    unfold ptr
                    go_wp2_with fail
                    go_roundw
                    case rel => exact ⟨j + 1, by omega, by go_num, H6⟩
                    case measure => simp [intOf]; omega
            · as_aux_lemma =>
                have hjj : ¬ (j : Int) < (q : Int) := by omega
                clear hlt
                obtain ⟨wo, hwo⟩ : ∃ wo, wr = wo := ⟨_, rfl⟩
                rw [hwo] at HP ⊢
                clear hwo wr
                obtain ⟨x, rfl, rfl, ⟨rfl, rfl, D, hds, -⟩ | ⟨nn, l0, l1, mm, q0, q1, lv, sv, mv, S, rfl, rfl, hin, hpf⟩⟩ := HP.out
                · have HOLD := Lib.hid (Two2.old hds).bel
                  clear hds HP
                  go_wp2_with fail
                  go_loopw [17] (fun i wr => i = .int .i64 0 ∧ wr = wo) (fun i _ => 0)
                  case atStart => exact ⟨rfl, rfl⟩
                  case round =>
                    obtain ⟨rfl, rfl⟩ := hrel
                    go_wp2_with fail
                    refine (inworks_any _).mono ?_
                    rintro e w9 ⟨rfl, hb9⟩
                    go_wp2_with fail
                    go_ret
                    exact ⟨rfl, bel_trans HOLD.out hb9⟩
                · have HIN := Lib.hid hin
                  have HPF := Lib.hid hpf
                  clear HP hin hpf
                  obtain ⟨T, hT⟩ : ∃ T, S.rs.length = T := ⟨_, rfl⟩
                  have HT := Lib.hid hT
                  have hT5 : T ≤ 500 := by rw [← hT]; exact HPF.out.n
                  obtain ⟨hcm, hrm, -⟩ := (Two2.snd HIN.out).cells
                  rw [hT] at hrm
                  obtain ⟨la, lc, rfl⟩ := (Reads.own hrm).shape
                  have HCM := Lib.hid hcm
                  have HRM := Lib.hid (Reads.own hrm)
                  clear hT hcm hrm
                  go_wp2_with fail
                  go_loopw [17] (fun i wr => ∃ k : Nat, k ≤ T ∧ i = .int .i64 (k : Int) ∧ Hid (Below wo.heap.size wo wr)) (fun i _ => T - (intOf i).toNat)
                  case atStart => exact ⟨0, Nat.zero_le _, rfl, Lib.hid (Below.refl _ _)⟩
                  case round =>
                    obtain ⟨k, hk, rfl, HB⟩ := hrel
                    have hc := (HB.out.block mm (Array.getElem?_eq_some_iff.1 HCM.out).1).trans HCM.out
                    have c1 := cells_at hc 1 _ rfl
                    simp only [List.getElem_toArray, List.getElem_cons_zero, List.getElem_cons_succ] at c1
                    by_cases hlt : k < T
                    · obtain ⟨y, hy⟩ : ∃ y, S.rs[k]? = some y := ⟨S.rs[k]'(by rw [HT.out]; omega), by simp⟩
                      have hkT : (k : Int) < (T : Int) := by omega
                      have hat := at_good (Two2.fst (Two2.below HIN.out HB.out)) k HPF.out.n y hy
                      obtain ⟨b, o, cap, hv, hcap, hcmx, hblt, hcells⟩ := HRM.out.some (by omega)
                      cases hv
                      obtain ⟨i0, i1, i2⟩ := inCells_at S.rs k y hy
                      have HR := Lib.hid (And.intro hblt (And.intro (hcells _ _ i0) (And.intro (hcells _ _ i1) (hcells _ _ i2))))
                      obtain ⟨yp, yk, yv⟩ := y
                      unfold InR.val' at hat
                      dsimp only at hat
                      have HAT := Lib.hid hat
                      clear hat hy hcells i0 i1 i2 hc hcap hcmx hblt
                      unfold ptr at HAT
                      go_wp2_with fail
                      refine HAT.out.mono ?_
                      rintro e w4 ⟨rfl, hb4⟩
                      have HB4 := Lib.hid (bel_trans HB.out hb4)
                      clear hb4 c1 HAT
                      have hlv : (k : Int) + 1 = ((k + 1 : Nat) : Int) := by omega
                      have hx4 := heap_alloc_new w4 (.cells #[.int .i64 yp, .int .i64 yk, .int .i64 yv] 32)
                      have hb44 := bel_alloc w4 (.cells #[.int .i64 yp, .int .i64 yk, .int .i64 yv] 32)
                      obtain ⟨V, hV⟩ : ∃ V, w4.alloc (.cells #[.int .i64 yp, .int .i64 yk, .int .i64 yv] 32) = V := ⟨_, rfl⟩
                      rw [hV] at hx4 hb44
                      have hcuts := cuts_good (Two2.fst (Two2.below HIN.out (bel_trans HB4.out hb44))) (k + 1) (by rw [HT.out]; omega) (by rw [HT.out]; omega) HPF.out.n HPF.out.p
                      rw [← hlv] at hcuts
                      have HX4 := Lib.hid hx4
                      have HBV := Lib.hid (bel_trans HB4.out hb44)
                      have HCUTS := Lib.hid hcuts
                      clear hx4 hb44 hcuts hlv
                      unfold ptr at HCUTS
                      go_wp2_with fail
                      refine HCUTS.out.mono ?_
                      rintro e w5 ⟨g5, rfl, hge5, hb5, hg5⟩
                      have hx5 := (hb5.block _ (Array.getElem?_eq_some_iff.1 HX4.out).1).trans HX4.out
                      have HB5 := Lib.hid (bel_trans HBV.out hb5)
                      have HX5 := Lib.hid hx5
                      have HG5 := Lib.hid hg5
                      obtain ⟨xb, hxb⟩ : ∃ xb, w4.heap.size = xb := ⟨_, rfl⟩
                      rw [hxb] at HX5 ⊢
                      obtain ⟨A, hA⟩ : ∃ A, inCnt 0 (S.rs.take (k + 1)) = A := ⟨_, rfl⟩
                      obtain ⟨B, hB⟩ : ∃ A, inCnt 1 (S.rs.take (k + 1)) = A := ⟨_, rfl⟩
                      rw [hA, hB] at HG5
                      have HA := Lib.hid hA
                      have HBB := Lib.hid hB
                      clear hx5 hge5 hb5 hg5 hxb hA hB hV
                      clear HCUTS
                      have hlv : (k : Int) + 1 = ((k + 1 : Nat) : Int) := by omega
                      have hrc := rcuts_any (Two2.snd (Two2.below HIN.out (bel_trans HB5.out (bel_drew w5)))) (k + 1) (by rw [HT.out]; omega) (by rw [HT.out]; omega) HPF.out.n HPF.out.p
                      rw [← hlv] at hrc
                      unfold ptr at hrc
                      have HRC := Lib.hid hrc
                      clear hlv hrc
                      go_upto_region 40 with fail
                      have HCEL := Lib.hid (show ∀ W', Below w5.heap.size w5 W' → W'.cell? ⟨xb, 0, none⟩ = some (.int .i64 yp) ∧ W'.cell? ⟨xb, 1, none⟩ = some (.int .i64 yk) ∧ W'.cell? ⟨xb, 2, none⟩ = some (.int .i64 yv) ∧ W'.cell? ⟨mm, 1, none⟩ = some (.slice (some ⟨b, o, none⟩) T lc) ∧
                          W'.cell? ⟨b, o + k * 3, none⟩ = some (.int .i64 yp) ∧ W'.cell? ⟨b, o + k * 3 + 1, none⟩ = some (.int .i64 yk) ∧ W'.cell? ⟨b, o + k * 3 + 2, none⟩ = some (.int .i64 yv) from fun W' hb => by
                        have e1 := (hb.block xb (Array.getElem?_eq_some_iff.1 HX5.out).1).trans HX5.out
                        have hbo := bel_trans HB5.out hb
                        have e2 := (hbo.block mm (Array.getElem?_eq_some_iff.1 HCM.out).1).trans HCM.out
                        have e3 := hbo.block b HR.out.1
                        refine ⟨cells_at e1 0 _ rfl, cells_at e1 1 _ rfl, cells_at e1 2 _ rfl, cells_at e2 1 _ rfl, (World.cell?_of_block e3).trans HR.out.2.1, (World.cell?_of_block e3).trans HR.out.2.2.1, (World.cell?_of_block e3).trans HR.out.2.2.2⟩)
                      refine wp_region_free [0, 1, 2, 3, 4, 5, 6, 7, 8, 9, 10, 11, 12, 13, 14, 15, 16, 17, 18, 19, 20, 21] 23 (fun W' => Below w5.heap.size w5 W') (by kernel_rfl) (by kernel_rfl) ?_
                      change wpYields _ _ _ _ [_, _, _, _, _, _, _, _, _, _, _, _, _, _, _, _, _, _, _, _, _, _] _
                      have hkT2 : (0 : Int) ≤ (k : Int) := by omega
                      iterate 8 (refine yields_step (fun K hK => ?_); apply Exists.intro; apply And.intro; (apply yields_at rfl; rintro W' hb; obtain ⟨a0, a1, a2, am, c0, c1, c2⟩ := HCEL.out W' hb; go_simp; first | done | rfl); go_simp; refine hK _ ?_; clear hK K)
                      iterate 14 (refine yields_step (fun K hK => ?_); apply Exists.intro; apply And.intro; (apply yields_at rfl; rintro W' hb; go_simp; first | done | rfl); go_simp; refine hK _ ?_; clear hK K)
                      refine yields_nil ?_
                      refine anyP_one_w (k := 22) (by kernel_rfl) (by decide) rfl rfl (bel_drew w5) (fun K hK => ?_)
                      go_simp
                      go_at_call 31
                      rw [show IntKind.i64.wrap ((k : Int) + 1) = (k : Int) + 1 from IntWalk.i64_in _ (by omega)]
                      refine HRC.out.mono ?_
                      rintro e w6 ⟨g6, rfl, hge6, hb6, hg6⟩
                      rw [HA.out, HBB.out] at hg6
                      refine hK _ _ ?_
                      clear hK K
                      have hbw6 := bel_trans (bel_drew w5) hb6
                      refine anyP_leaf hbw6 (by kernel_rfl) ?_
                      simp only [List.drop_succ_cons, List.drop_zero]
                      have HEQ := Lib.hid (eqInts_any _ _ [(A : Int), (B : Int)] [(A : Int), (B : Int)] w6 (reads_two ((hbw6.block g5 (Array.getElem?_eq_some_iff.1 HG5.out).1).trans HG5.out)) (reads_two hg6))
                      have HB6 := Lib.hid (bel_trans HB5.out hbw6)
                      clear hbw6 hb6 hg6 hge6
                      go_wp2_with fail
                      go_at_call 30
                      refine HEQ.out.mono ?_
                      rintro e w7 ⟨rfl, n7, rfl⟩
                      clear HRC HCEL HR
                      go_wp2_with fail
                      go_roundw
                      case rel => exact ⟨k + 1, by omega, by go_num, Lib.hid (bel_trans HB6.out (bel_drewN _ _))⟩
                      case measure => simp [intOf]; omega
                    · have hkT : ¬ (k : Int) < (T : Int) := by omega
                      have HOLD := Lib.hid (bel_trans (Two2.old HIN.out).bel HB.out)
                      clear hc
                      go_wp2_with fail
                      refine (inworks_any _).mono ?_
                      rintro e w9 ⟨rfl, hb9⟩
                      go_wp2_with fail
                      go_ret
                      exact ⟨rfl, bel_trans HOLD.out hb9⟩

end Go.Proofs.Ytllecjhfbojgcaa
