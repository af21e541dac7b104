/-
  The walk through DiskKept.
-/
import Derived.Test.YtdnjmihalmhddaaDiskRows
import Derived.Deep.RegionLaw
import Derived.BigRegion
import Derived.StillTailTactics
namespace Go.Proofs.Ytdnjmihalmhddaa
open Go.RowKit

theorem all_live {w0 w : World} {d : Nat} {D : Dk.St} {K : Nat → Prop} (h : DkK w0 w d D K) (hon : D.off = false) :
    Calls Try.prog 26 #[ptr d 0] w fun e w' => ∃ g cap, e = .returned (.slice (some ⟨g, 0, none⟩) 16 cap) ∧ w'.ownsRow w.heap.size 9 1 (.slice (some ⟨g, 0, none⟩) 16 cap) 16 (strV D.now) ∧ Below w.heap.size w w' ∧ DkK w0 w' d D (fun k => K k ∨ (w.heap.size ≤ k ∧ k < w'.heap.size)) ∧ w.heap.size ≤ g ∧ g < w'.heap.size := by
  have h' := h
  obtain ⟨F, h1, -⟩ := h
  refine (disk_all w d D F h1 hon).mono ?_
  rintro e w' ⟨g, cap, rfl, hown, hb⟩
  refine ⟨g, cap, rfl, hown, hb, h'.grow hb, ?_, ?_⟩
  · rcases hown.2 with ⟨h, -⟩ | ⟨g', cap', cur, hv, h2, h3, _⟩
    · cases h
    · simp only [Value.slice.injEq, Option.some.injEq, Addr.mk.injEq] at hv
      omega
  · rcases hown.2 with ⟨h, -⟩ | ⟨g', cap', cur, hv, h2, h3, _⟩
    · cases h
    · simp only [Value.slice.injEq, Option.some.injEq, Addr.mk.injEq] at hv
      have := (Array.getElem?_eq_some_iff.1 h3).1
      omega
theorem half_all {w wr : World} {d : Nat} {D : Dk.St} {apps : List Dop} {x : Dop} {s11 s12 : Value} {g : Nat} (h : Half w wr d D apps x s11 s12 g) :
    Calls Try.prog 26 #[ptr d 0] wr fun e w' => ∃ g0 cap0, e = .returned (.slice (some ⟨g0, 0, none⟩) 16 cap0) ∧ Half2 w w' d D apps x s11 s12 g g0 cap0 ∧ (∀ (b : Nat) (o : Obj), wr.heap[b]? = some o → w'.heap[b]? = some o) ∧ wr.heap.size ≤ w'.heap.size := by
  obtain ⟨vss, h1, h2⟩ := h.ex
  have hws := h1.bel.size
  have hgg : ∀ b, s11.ownBlock = some b → b ≠ g := fun b hb e => by
    subst e
    obtain ⟨cur, hc⟩ := own_type h2.row1 hb
    rw [h.cells] at hc
    simp at hc
  refine (all_live h1 h.made.off).mono ?_
  rintro e w' ⟨g0, cap, rfl, hown, hb, hk, hlo, hlt⟩
  have hh := h.grow hb
  refine ⟨g0, cap, rfl, ⟨⟨vss, hk.less (fun b hb => ?_), h2.kept (fun b hb' => hb.block b (by obtain ⟨F, _, _, _, h7⟩ := h1; exact (h7 b (.inl hb')).1))⟩, h.made, hh.cells, ?_, by omega, hgg⟩, fun b o hbo => (hb.block b (Array.getElem?_eq_some_iff.1 hbo).1).trans hbo, hb.size⟩
  · rcases hb with hb | hb
    · exact .inl hb
    · exact .inr ⟨by omega, by omega⟩
  · have hst := stateAt_now h.made h1.live.ok
    rw [List.length_append, List.length_singleton] at hst
    rw [hst]
    rcases hown with ⟨q1, ⟨q2, -⟩ | ⟨g', cap', cur, q2, q3, q4⟩⟩
    · cases q2
    · exact ⟨q1, .inr ⟨g', cap', cur, q2, Nat.zero_le _, q4⟩⟩
theorem heap_alloc_at (w : World) (o : Obj) (b : Nat) (h : b = w.heap.size) : (w.alloc o).heap[b]? = some o := h ▸ heap_alloc_new w o
theorem kept_alloc {w : World} {o : Obj} {b : Nat} {x : Obj} (h : w.heap[b]? = some x) : (w.alloc o).heap[b]? = some x := (Below.heap_alloc _ _ _ (Array.getElem?_eq_some_iff.1 h).1).trans h
theorem kept_but {u w : World} {r : Option Nat} {b : Nat} {x : Obj} (hk : ∀ b, b < u.heap.size → r ≠ some b → w.heap[b]? = u.heap[b]?) (h : u.heap[b]? = some x) (hn : r ≠ some b) : w.heap[b]? = some x := (hk b (Array.getElem?_eq_some_iff.1 h).1 hn).trans h
theorem own_base {w : World} {base g n c : Nat} {e : TypeId} {size : Nat} {xs : List Value} (h : w.ownsRow base e size (.slice (some ⟨g, 0, none⟩) n c) n xs) : base ≤ g ∧ g < w.heap.size := by
  rcases h.2 with ⟨h, -⟩ | ⟨g', cap', cur, hv, h2, h3, _⟩
  · cases h
  · simp only [Value.slice.injEq, Option.some.injEq, Addr.mk.injEq] at hv
    have := (Array.getElem?_eq_some_iff.1 h3).1
    omega
theorem own_zero {w : World} {base : Nat} {e : TypeId} {size : Nat} {v : Value} {n : Nat} {xs : List Value} (h : w.ownsRow base e size v n xs) : w.ownsRow 0 e size v n xs := by
  refine ⟨h.1, ?_⟩
  rcases h.2 with h | ⟨g, cap, cur, h1, h2, h3⟩
  · exact .inl h
  · exact .inr ⟨g, cap, cur, h1, Nat.zero_le _, h3⟩

theorem row_cells {w : World} {g c : Nat} {fs : Dk.Files} (_hl : fs.length = 16) (h : w.ownsRow 0 9 1 (.slice (some ⟨g, 0, none⟩) 16 c) 16 (strV fs)) : ∀ j, j < fs.length → w.cell? ⟨g, 0 + j, none⟩ = some (.string (fs.getD j ByteArray.empty)) := fun j hj => by
  obtain ⟨b, o, k, hb, -, -, -, hc⟩ := (Reads.own h).some (by omega)
  cases hb
  refine hc j _ ?_
  unfold strV
  rw [List.getElem?_map, List.getD_eq_getElem?_getD, List.getElem?_eq_getElem hj]
  rfl
theorem eq_rows {w : World} {g1 c1 g2 c2 : Nat} {fs : Dk.Files} (hl : fs.length = 16) (h1 : w.ownsRow 0 9 1 (.slice (some ⟨g1, 0, none⟩) 16 c1) 16 (strV fs)) (h2 : w.ownsRow 0 9 1 (.slice (some ⟨g2, 0, none⟩) 16 c2) 16 (strV fs)) :
    Calls Try.prog 28 #[.slice (some ⟨g1, 0, none⟩) 16 c1, .slice (some ⟨g2, 0, none⟩) 16 c2] w fun e w' => e = .returned (.bool true) ∧ Below w.heap.size w w' := by
  refine (Try.slices_Equal_string g1 0 16 c1 g2 0 16 c2 fs fs w (by omega) (by omega) (by omega) (by omega) (row_cells hl h1) (row_cells hl h2)).mono ?_
  rintro e w' ⟨rfl, q, rfl⟩
  exact ⟨by simp, bel_drewN _ _⟩

theorem want_done {w wc : World} {d gw cw fn : Nat} {D : Dk.St} {K : Nat → Prop} {fs : Dk.Files} {v : ByteArray} (h : DkK w wc d D K) (hK : K gw) (hg : w.heap.size ≤ gw) (ho : wc.ownsRow 0 9 1 (.slice (some ⟨gw, 0, none⟩) 16 cw) 16 (strV fs)) :
    ((wc.setCell ⟨gw, fn, none⟩ (.string v)).drew).ownsRow 0 9 1 (.slice (some ⟨gw, 0, none⟩) 16 cw) 16 (strV (fs.set fn v)) ∧ DkK w ((wc.setCell ⟨gw, fn, none⟩ (.string v)).drew) d D (fun b => b = gw) := by
  constructor
  · have := (ho.stored fn (.string v)).1
    have h2 : (strV fs).set fn (.string v) = strV (fs.set fn v) := by unfold strV; rw [List.map_set]
    rw [h2] at this
    exact own_kept this (fun g _ => rfl)
  · have ho : Only (fun b => b = gw) wc ((wc.setCell ⟨gw, fn, none⟩ (.string v)).drew) := (Only.setCell (fun b => b = gw) wc ⟨gw, fn, none⟩ (.string v) rfl).drewN 1
    exact (h.only ho (fun k hk => by have hk : k = gw := hk; rw [hk]; exact ⟨hK, hg⟩)).less (fun b (hb : b = gw) => .inl (by rw [hb]; exact hK))
theorem size_made {D : Dk.St} {apps : List Dop} (hD : Dk.Ok D) (hM : Dk.Made D apps) {q fn : Nat} {on om : Int} {os : ByteArray} (h : apps[q]? = some ⟨0, fn, on, om, os⟩) (hf : fn < 16) : (Dk.at' (Dk.stateAt D q) fn).size + os.size ≤ 4194304 := by
  have hl : D.loose[q]? = some (.app fn os) := by
    rw [hM.loose, List.getElem?_map, h]
    simp [Dk.chOf]
  have h1 := (hD.chain.at q _ hl).2
  have hr := hD.room
  have hsl : (Dk.stateAt D q).length = 16 := by unfold Dk.stateAt; rw [Dk.runs_len]; exact hD.sureL
  rw [show Dk.runs D.sure (D.loose.take q) = Dk.stateAt D q from rfl, Dk.total_app fn os _ (by omega)] at h1
  have := Dk.at_le (Dk.stateAt D q) fn
  omega

set_option maxHeartbeats 16000000 in
set_option maxRecDepth 100000 in
theorem diskKept_walk (room : Int) (v : Value) (l : List Dop) (chg byt : Int) (w : World) (_hroom : (Lit.int .i64 room).wf = true) (hr : Reads w v l.length (dopCells l)) (hi : ∀ r ∈ l, (Lit.int .i64 r.f).wf = true ∧ (Lit.int .i64 r.n).wf = true ∧ (Lit.int .i64 r.m).wf = true ∧ r.s.size ≤ maxLen) (_hc : (Lit.int .i64 chg).wf = true) (_hb : (Lit.int .i64 byt).wf = true) :
    Calls Try.prog 6 #[.int .i64 room, v, .int .i64 chg, .int .i64 byt] w fun e w' => e = .returned (.bool true) ∧ Below w.heap.size w w' := by
  have hlen := hr.lenLe
  unfold maxLen at hlen
  have HR := Lib.hid hr
  have HI := Lib.hid hi
  obtain ⟨a, c, rfl⟩ := hr.shape
  clear hr hi _hroom _hc _hb
  obtain ⟨m, hm⟩ : ∃ m, l.length = m := ⟨_, rfl⟩
  have HM := Lib.hid hm
  rw [hm] at hlen
  rw [hm]
  clear hm
  by_cases hrm : 1 ≤ room ∧ room ≤ 4194304
  · obtain ⟨rm, rfl⟩ : ∃ n : Nat, room = n := ⟨room.toNat, by omega⟩
    go_enter Try.func6, Try.ntmps6
    go_wp2_with fail
    refine (live_new rm w ⟨by omega, by omega⟩).mono ?_
    rintro e w1 ⟨rfl, h⟩
    have H := Lib.hid (show Live w w1 w.heap.size (Dk.fresh rm) from h)
    clear h
    unfold ptr
    have hv1 := HR.out.below H.out.bel
    have hhv := heavy_any _ l w1 hv1 (fun r hr => (HI.out r hr).2.2.2)
    rw [HM.out] at hhv
    have HHV := Lib.hid hhv
    clear hhv hv1
    go_wp2_with fail
    refine HHV.out.mono ?_
    rintro e w2 (⟨rfl, hm3, hb2⟩ | ⟨rfl, hb2⟩)
    · have H2 := Lib.hid (H.out.below hb2)
      clear hb2
      have hal := all_live H2.out.dkk rfl
      unfold ptr at hal
      go_wp2_with fail
      refine hal.mono ?_
      clear hal
      rintro e w3 ⟨g, cap, rfl, hown, hb3, hk3, hg1, hg2⟩
      have hone := rows_one hk3 (D := Dk.fresh rm) ⟨rfl, rfl, rfl, fun x hx => by cases hx⟩ (.inr ⟨hg1, hg2⟩) (by have := H2.out.bel.size; omega) (own_zero hown)
      have HONE := Lib.hid hone
      clear hone hown hb3 hk3 hg1 hg2
      go_wp2_with fail
      go_loopw [11, 12, 35] (fun s11 s12 i wr => ∃ (j : Nat) (D : Dk.St) (apps : List Dop), j ≤ m ∧ i = .int .i64 (j : Int) ∧ Hid (KdAt w wr w.heap.size D apps s11 s12 (fun _ => False)) ∧ apps.length ≤ j) (fun _ _ i _ => m - (intOf i).toNat)
      case atStart => exact ⟨0, _, [], Nat.zero_le _, rfl, Lib.hid ⟨by obtain ⟨vss, h1, h2⟩ := HONE.out.ex; exact ⟨vss, h1.less (fun b hb => hb.elim .inl (fun h => h.elim)), h2⟩, HONE.out.made⟩, Nat.zero_le _⟩
      case round =>
        obtain ⟨j, D, apps, hj, rfl, HS, hLj⟩ := hrel
        obtain ⟨s11, rfl⟩ : ∃ x, x = u11 := ⟨_, rfl⟩
        obtain ⟨s12, rfl⟩ : ∃ x, x = u12 := ⟨_, rfl⟩
        by_cases hlt : j < m
        · obtain ⟨x, hx⟩ : ∃ x, l[j]? = some x := ⟨l[j]'(by rw [HM.out]; omega), by simp⟩
          have hrr := HR.out
          obtain ⟨b, o, hae, hblt, r0, r1, r2, r3, r4⟩ := reads5 hrr j x hx
          subst hae
          have hbl : Below w.heap.size w wr := by obtain ⟨vss, h1, -⟩ := HS.out.ex; exact h1.bel
          have r0 := (World.cell?_of_block (hbl.block b hblt)).trans r0
          have r1 := (World.cell?_of_block (hbl.block b hblt)).trans r1
          have r2 := (World.cell?_of_block (hbl.block b hblt)).trans r2
          have r3 := (World.cell?_of_block (hbl.block b hblt)).trans r3
          have r4 := (World.cell?_of_block (hbl.block b hblt)).trans r4
          have hjk : (j : Int) < (m : Int) := by omega
          clear hbl hx hrr
          obtain ⟨xk, xf, xn, xm, xs⟩ := x
          simp only at r0 r1 r2 r3 r4
          have hxn := heap_alloc_new wr (.cells #[.int .i64 xk, .int .i64 xf, .int .i64 xn, .int .i64 xm, .string xs] 42)
          have HX := Lib.hid hxn
          have HS1 := Lib.hid (HS.out.alloc (.cells #[.int .i64 xk, .int .i64 xf, .int .i64 xn, .int .i64 xm, .string xs] 42))
          have s0 := cells_at hxn 0 _ rfl
          have s1 := cells_at hxn 1 _ rfl
          have s2 := cells_at hxn 2 _ rfl
          have s4 := cells_at hxn 4 _ rfl
          simp only [List.getElem_toArray, List.getElem_cons_zero, List.getElem_cons_succ] at s0 s1 s2 s4
          clear hxn
          go_upto_region 10 with fail
          obtain ⟨g, hg⟩ : ∃ g, wr.heap.size = g := ⟨_, rfl⟩
          obtain ⟨V, hV⟩ : ∃ V, wr.alloc (.cells #[.int .i64 xk, .int .i64 xf, .int .i64 xn, .int .i64 xm, .string xs] 42) = V := ⟨_, rfl⟩
          rw [hg] at HX HS1 s0 s1 s2 s4 ⊢
          rw [hV] at HX HS1 s0 s1 s2 s4 ⊢
          clear hg hV
          go_cut [40] from 39 to 84 (fun s40 wx => s40 = .int .i64 xk ∧ wx = V)
          case first =>
            go_wp2_with fail
            go_meet
            case rel => exact ⟨rfl, rfl⟩
          case rest =>
            obtain ⟨rfl, hwc⟩ := hcut
            subst hwc
            apply_assumption
            go_cut [11, 12, 15] from 39 to 84 (fun t11 t12 t15 wx => ∃ (D1 : Dk.St) (apps1 : List Dop) (ev : Int), t15 = .int .i64 ev ∧ (ev ≠ 0 ∧ Hid (KdAt w wx w.heap.size D1 apps1 t11 t12 (fun b => b = g)) ∨ ev = 0 ∧ Hid (Half w wx w.heap.size D1 apps1 ⟨xk, xf, xn, xm, xs⟩ t11 t12 g)) ∧ apps1.length ≤ j)
            case first =>
              obtain ⟨vss, h1, h2⟩ := HS1.out.ex
              have HMD := Lib.hid HS1.out.made
              have HRW := Lib.hid h2
              clear h2
              by_cases hx0 : xk = 0
              · have hxk := hx0
                subst hxk
                have hcl := dkk_append h1 xf xs (by rw [HMD.out.loose, List.length_map]; omega)
                unfold ptr at hcl
                have hmd := Dk.made_append HMD.out ⟨_, xf, xn, xm, xs⟩ rfl
                obtain ⟨eA, D1, hA⟩ : ∃ e D', Dk.append D xf xs = (e, D') := ⟨_, _, rfl⟩
                rw [hA] at hcl
                simp only [hA] at hmd
                have HCL := Lib.hid hcl
                clear hcl hA
                go_wp2_with fail
                refine HCL.out.mono ?_
                rintro e w5 ⟨rfl, h5, hk5, hs5⟩
                go_wp2_with fail
                go_meet
                case rel =>
                  rcases hmd with ⟨q1, q2, q3⟩ | ⟨q1, q2⟩
                  · subst q1
                    exact ⟨D1, apps, 0, rfl, .inr ⟨rfl, Lib.hid (half_of HRW.out HMD.out q3 q2 h5 hk5 HX.out)⟩, hLj⟩
                  · subst q2
                    exact ⟨_, apps, eA, rfl, .inl ⟨q1, Lib.hid (kd_of HRW.out HMD.out h5 hk5)⟩, hLj⟩
              · by_cases hx1 : xk = 1
                · have hxk := hx1
                  subst hxk
                  have hcl := dkk_cut h1 xf xn (by rw [HMD.out.loose, List.length_map]; omega)
                  unfold ptr at hcl
                  have hmd := Dk.made_cut HMD.out ⟨_, xf, xn, xm, xs⟩ rfl
                  obtain ⟨eA, D1, hA⟩ : ∃ e D', Dk.cut D xf xn = (e, D') := ⟨_, _, rfl⟩
                  rw [hA] at hcl
                  simp only [hA] at hmd
                  have HCL := Lib.hid hcl
                  clear hcl hA
                  go_wp2_with fail
                  refine HCL.out.mono ?_
                  rintro e w5 ⟨rfl, h5, hk5, hs5⟩
                  go_wp2_with fail
                  go_meet
                  case rel =>
                    rcases hmd with ⟨q1, q2, q3⟩ | ⟨q1, q2⟩
                    · subst q1
                      exact ⟨D1, apps, 0, rfl, .inr ⟨rfl, Lib.hid (half_of HRW.out HMD.out q3 q2 h5 hk5 HX.out)⟩, hLj⟩
                    · subst q2
                      exact ⟨_, apps, eA, rfl, .inl ⟨q1, Lib.hid (kd_of HRW.out HMD.out h5 hk5)⟩, hLj⟩
                · by_cases hx2 : xk = 2
                  · have hxk := hx2
                    subst hxk
                    have hcl := dkk_move h1 xf xn (by rw [HMD.out.loose, List.length_map]; omega)
                    unfold ptr at hcl
                    have hmd := Dk.made_move HMD.out ⟨_, xf, xn, xm, xs⟩ rfl
                    obtain ⟨eA, D1, hA⟩ : ∃ e D', Dk.move D xf xn = (e, D') := ⟨_, _, rfl⟩
                    rw [hA] at hcl
                    simp only [hA] at hmd
                    have HCL := Lib.hid hcl
                    clear hcl hA
                    go_wp2_with fail
                    refine HCL.out.mono ?_
                    rintro e w5 ⟨rfl, h5, hk5, hs5⟩
                    go_wp2_with fail
                    go_meet
                    case rel =>
                      rcases hmd with ⟨q1, q2, q3⟩ | ⟨q1, q2⟩
                      · subst q1
                        exact ⟨D1, apps, 0, rfl, .inr ⟨rfl, Lib.hid (half_of HRW.out HMD.out q3 q2 h5 hk5 HX.out)⟩, hLj⟩
                      · subst q2
                        exact ⟨_, apps, eA, rfl, .inl ⟨q1, Lib.hid (kd_of HRW.out HMD.out h5 hk5)⟩, hLj⟩
                  · by_cases hx3 : xk = 3
                    · subst hx3
                      have hcl := dkk_sync h1
                      unfold ptr at hcl
                      obtain ⟨q1, q2, q3, q4⟩ := Dk.made_sync HMD.out
                      obtain ⟨eA, D1, hA⟩ : ∃ e D', Dk.sync D = (e, D') := ⟨_, _, rfl⟩
                      rw [hA] at hcl
                      simp only [hA] at q1 q2 q3 q4
                      subst q1
                      have HCL := Lib.hid hcl
                      have HQ4 := Lib.hid q4
                      clear hcl hA q2 q3 q4
                      go_wp2_with fail
                      refine HCL.out.mono ?_
                      rintro e w5 ⟨rfl, h5, hk5, hs5⟩
                      have H5 := Lib.hid h5
                      have hal := all_live h5 HQ4.out.off
                      unfold ptr at hal
                      have HX5 := Lib.hid ((hk5 g (.inr rfl)).trans HX.out)
                      clear h5 hk5 hs5
                      go_wp2_with fail
                      refine hal.mono ?_
                      clear hal
                      rintro e w6 ⟨ga, cap2, rfl, hown, hb6, hk6, hg1, hg2⟩
                      have hone := rows_one hk6 HQ4.out (.inr ⟨hg1, hg2⟩) (by have := H5.out.bel.size; omega) (own_zero hown)
                      have HONE := Lib.hid hone
                      clear hone hown hb6 hk6 hg1 hg2
                      go_wp2_with fail
                      go_meet
                      case rel =>
                        refine ⟨D1, [], 2, rfl, .inl ⟨by decide, Lib.hid ?_⟩, Nat.zero_le _⟩
                        obtain ⟨vs, k1, k2⟩ := HONE.out.ex
                        exact ⟨⟨vs, k1.less (fun b hb => hb.elim .inl (fun e => .inr (.inl (.inr e)))), k2⟩, HQ4.out⟩
                    · go_wp2_with fail
                      go_meet
                      case rel => exact ⟨D, apps, 2, rfl, .inl ⟨by decide, HS1⟩, hLj⟩
            case rest =>
              obtain ⟨D1, apps1, ev, rfl, hcs, hL1⟩ := hcut
              obtain ⟨t11, rfl⟩ : ∃ x, x = u11 := ⟨_, rfl⟩
              obtain ⟨t12, rfl⟩ : ∃ x, x = u12 := ⟨_, rfl⟩
              apply_assumption
              rcases hcs with ⟨hne, HK⟩ | ⟨rfl, HHF⟩
              · have hz : (ev == 0) = false := by simpa using hne
                go_wp2_with fail
                go_roundw
                case rel => exact ⟨j + 1, D1, apps1, by omega, by go_num, Lib.hid HK.out.drop, by omega⟩
                case measure => simp [intOf]; omega
              · go_upto_region 21 with fail
                have hal9 : apps1.length ≤ 1000 := by omega
                have hb11 : ∀ b, t11.ownBlock = some b → b < wc.heap.size := HHF.out.lo
                have hhf := HHF.out.grow (bel_drew wc)
                have hgc := (Array.getElem?_eq_some_iff.1 HHF.out.cells).1
                have s0 := cells_at HHF.out.cells 0 _ rfl
                have s1 := cells_at HHF.out.cells 1 _ rfl
                have s2 := cells_at HHF.out.cells 2 _ rfl
                have s3 := cells_at HHF.out.cells 3 _ rfl
                have s4 := cells_at HHF.out.cells 4 _ rfl
                simp only [List.getElem_toArray, List.getElem_cons_zero, List.getElem_cons_succ] at s0 s1 s2 s3 s4
                go_region_law (first
                  | (refine step_states rfl _ _ rfl (by first | exact h5 | exact h5.grow (bel_alloc _ _) | exact (h5.grow (bel_alloc _ _)).grow (bel_alloc _ _)) hal9 rfl rfl (by first | exact heap_alloc_at _ _ _ (by simp) | exact kept_alloc (heap_alloc_at _ _ _ (by simp))) ?_
                     intro g1 c1 w6 h6 hk6 hc6
                     have hg6 := (Array.getElem?_eq_some_iff.1 hc6).1
                     have s06 := cells_at hc6 0 _ rfl
                     have s16 := cells_at hc6 1 _ rfl
                     have s26 := cells_at hc6 2 _ rfl
                     have s36 := cells_at hc6 3 _ rfl
                     have s46 := cells_at hc6 4 _ rfl
                     simp only [List.getElem_toArray, List.getElem_cons_zero, List.getElem_cons_succ] at s06 s16 s26 s36 s46)
                  | (refine step_apps rfl _ _ rfl (by first | exact h6 | exact h6.grow (bel_alloc _ _)) hal9 rfl rfl (by first | exact heap_alloc_at _ _ _ (by simp) | exact kept_but hk6 (by first | exact heap_alloc_at _ _ _ (by simp) | exact kept_alloc (heap_alloc_at _ _ _ (by simp)) | exact kept_alloc (hk5 _ _ (heap_alloc_at _ _ _ (by simp)))) (fun e => by have h9 := hb11 _ e; omega)) ?_
                     intro g2 c2 w7 h7)
                  | (go_simp
                     go_at_call 26
                     refine (half_all (by first | exact hhf | exact hhf.grow (bel_alloc _ _))).mono ?_
                     rintro e w5 ⟨g0, cap0, rfl, h5, hk5, hz5⟩
                     have hz5' : wc.heap.size ≤ w5.heap.size := Nat.le_trans (by simp) hz5
                     have hg5 := (Array.getElem?_eq_some_iff.1 h5.cells).1
                     have s05 := cells_at h5.cells 0 _ rfl
                     have s15 := cells_at h5.cells 1 _ rfl
                     have s25 := cells_at h5.cells 2 _ rfl
                     have s35 := cells_at h5.cells 3 _ rfl
                     have s45 := cells_at h5.cells 4 _ rfl
                     simp only [List.getElem_toArray, List.getElem_cons_zero, List.getElem_cons_succ] at s05 s15 s25 s35 s45))
                all_goals
                  go_wp2_with fail
                  go_roundw
                  case rel => exact ⟨j + 1, D1, apps1 ++ [⟨xk, xf, xn, xm, xs⟩], by omega, by go_num, Lib.hid h7, by simp; omega⟩
                  case measure => simp [intOf]; omega
        · have hje : j = m := by omega
          subst hje
          have hjj : ¬ (j : Int) < (j : Int) := by omega
          clear hlt
          obtain ⟨vss, h1, h2⟩ := HS.out.ex
          have HMD := Lib.hid HS.out.made
          have HRW := Lib.hid h2
          have HS9 := Lib.hid h1.live.ok
          have hcr := dkk_crash h1 chg byt
          unfold ptr at hcr
          have HCR := Lib.hid hcr
          obtain ⟨a12, c12, hs12⟩ := (Reads.own h2.row2).shape
          subst hs12
          obtain ⟨a11, c11, hs11⟩ := (Reads.own h2.row1).shape
          subst hs11
          have hal9 : apps.length ≤ 300 := by omega
          clear h1 h2 hcr HS
          go_wp2_with fail
          refine HCR.out.mono ?_
          rintro e w5 ⟨rfl, h5, hk5, hs5⟩
          have H5 := Lib.hid h5
          have HR5 := Lib.hid (HRW.out.kept (fun b hb => hk5 b (.inl hb)))
          clear h5 hk5 hs5 HCR
          obtain ⟨N, hN⟩ : ∃ N, apps.length = N := ⟨_, rfl⟩
          have HN := Lib.hid hN
          rw [hN] at hal9
          rw [hN]
          clear hN
          go_upto_region 24 with fail
          go_cut [16] from 85 to 161 (fun s16 wx => s16 = .int .i64 (Dk.clip chg N : Int) ∧ wx = w5)
          case first =>
            by_cases hc1 : chg < 0
            · have m2 : min chg (N : Int) = chg := by omega
              have m3 : max chg 0 = 0 := by omega
              have m4 : ¬ (N : Int) < chg := by omega
              have m5 : chg ≤ (N : Int) := by omega
              have m6 : chg ≤ 0 := by omega
              have m7 : chg < (N : Int) := by omega
              have m8 : ¬ 0 < chg := by omega
              have hcl : Dk.clip chg N = 0 := by unfold Dk.clip; omega
              go_wp2_with fail
              go_meet
              case rel =>
                rw [hcl]
                exact ⟨rfl, rfl⟩
            · by_cases hc2 : chg < (N : Int)
              · have m2 : min chg (N : Int) = chg := by omega
                have m3 : max chg 0 = chg := by omega
                have m4 : ¬ (N : Int) < chg := by omega
                have m5 : chg ≤ (N : Int) := by omega
                have m6 : 0 ≤ chg := by omega
                have m7 : ¬ chg < 0 := by omega
                have hcl : (Dk.clip chg N : Int) = chg := by unfold Dk.clip; omega
                go_wp2_with fail
                all_goals
                  go_meet
                  case rel =>
                    rw [hcl]
                    first | exact ⟨rfl, rfl⟩ | (refine ⟨?_, rfl⟩; congr 1; omega)
              · have m2 : min chg (N : Int) = (N : Int) := by omega
                have m3 : max (N : Int) 0 = (N : Int) := by omega
                have m4 : (N : Int) ≤ chg := by omega
                have m6 : (0 : Int) ≤ (N : Int) := by omega
                have m7 : ¬ (N : Int) < 0 := by omega
                have hcl : (Dk.clip chg N : Int) = (N : Int) := by unfold Dk.clip; omega
                go_wp2_with fail
                all_goals
                  go_meet
                  case rel =>
                    rw [hcl]
                    first | exact ⟨rfl, rfl⟩ | (refine ⟨?_, rfl⟩; congr 1; omega)
          case rest =>
            obtain ⟨rfl, hwc⟩ := hcut
            subst hwc
            obtain ⟨q, hq⟩ : ∃ q, Dk.clip chg N = q := ⟨_, rfl⟩
            have hqN : q ≤ N := by rw [← hq]; exact Dk.clip_le _ _
            have HQ := Lib.hid hq
            have hvl := HR5.out.len
            rw [HN.out] at hvl
            obtain ⟨v, hv⟩ : ∃ v, vss[q]? = some v := ⟨_, List.getElem?_eq_getElem (show q < vss.length by omega)⟩
            obtain ⟨sg, sc, hsv, hso⟩ := HR5.out.state q v hv
            subst hsv
            obtain ⟨b1, o1, k1, hb1, hb2, hb3, hb4, hb5⟩ := (Reads.own HR5.out.row1).some (by omega)
            have p1 := hb5 _ _ hv
            cases hb1
            have hstl : (Dk.stateAt D q).length = 16 := by unfold Dk.stateAt; rw [Dk.runs_len]; exact HS9.out.sureL
            rw [hq]
            clear hq
            obtain ⟨b2, o2, k2, hb21, -, -, hb24, hb25⟩ := (Reads.own hso).some (by omega)
            cases hb21
            have hcn := Try.slices_Clone_string sg 0 16 sc (Dk.stateAt D q) wc (by omega) (by omega) (fun jj hjj => by
              refine hb25 jj _ ?_
              unfold strV
              rw [List.getElem?_map, List.getD_eq_getElem?_getD, List.getElem?_eq_getElem hjj]
              rfl)
            have htk : (Dk.stateAt D q).take 16 = Dk.stateAt D q := List.take_of_length_le (by omega)
            rw [htk] at hcn
            have HCN := Lib.hid hcn
            have hqi : (q : Int) < ((N + 1 : Nat) : Int) := by omega
            have hvl2 : vss.length = N + 1 := hvl
            rw [hvl2]
            clear hcn hso hb25 hb5 hv
            go_wp2_with fail
            refine HCN.out.mono ?_
            rintro e w6 ⟨v6, rfl, hown6, hne6, hb6⟩
            obtain ⟨gw, cw, rfl⟩ : ∃ gw cw, v6 = .slice (some ⟨gw, 0, none⟩) 16 cw := by
              rcases hown6.2 with ⟨h1, -⟩ | ⟨gw, cw, cur, h1, -⟩
              · exact absurd h1 hne6
              · exact ⟨gw, cw, h1⟩
            have hgw := own_base hown6
            have H6 := Lib.hid (H5.out.grow hb6)
            have HO6 := Lib.hid (own_zero hown6)
            have HR6 := Lib.hid (HR5.out.kept (fun b hb => hb6.block b (by obtain ⟨F, _, _, _, h7⟩ := H5.out; exact (h7 b (.inl hb)).1)))
            clear hown6 hne6 hb6
            go_upto_region 26 with fail
            have hkm := Dk.kept_made HMD.out chg byt
            rw [HN.out, HQ.out] at hkm
            have HKM := Lib.hid hkm
            clear hkm
            go_cut [110] from 85 to 161 (fun s110 wx => ∃ bb : Bool, s110 = .bool bb ∧ (bb = true → ∃ o, apps[q]? = some o ∧ o.kind = 0) ∧ (bb = false → ∀ o, apps[q]? = some o → o.kind ≠ 0) ∧ wx = w6)
            case first =>
              by_cases hqn : q < N
              · obtain ⟨o, ho⟩ : ∃ o, apps[q]? = some o := ⟨_, List.getElem?_eq_getElem (show q < apps.length by rw [HN.out]; exact hqn)⟩
                have hr2 := Reads.own HR6.out.row2
                obtain ⟨ab, ao, hae, hal, a0, -, -, -, -⟩ := reads5 hr2 q o ho
                have HO := Lib.hid ho
                cases hae
                have hqn2 : (q : Int) < (N : Int) := by omega
                clear hr2 ho
                obtain ⟨ok, of_, on, om, os⟩ := o
                simp only at a0
                by_cases hk : ok = 0
                · subst hk
                  go_wp2_with fail
                  go_meet
                  case rel => exact ⟨true, rfl, fun _ => ⟨_, HO.out, rfl⟩, fun h => (by cases h), rfl⟩
                · have hkz : (ok == 0) = false := by simpa using hk
                  go_wp2_with fail
                  go_meet
                  case rel => exact ⟨false, rfl, fun h => (by cases h), fun _ o' ho' => by rw [HO.out] at ho'; cases ho'; exact hk, rfl⟩
              · have hqn2 : ¬ (q : Int) < (N : Int) := by omega
                go_wp2_with fail
                go_meet
                case rel => exact ⟨false, rfl, fun h => (by cases h), fun _ o' ho' => by have := (List.getElem?_eq_some_iff.1 ho').1; rw [HN.out] at this; omega, rfl⟩
            case rest =>
              obtain ⟨bb, rfl, hbt, hbf, hwc2⟩ := hcut
              subst hwc2
              go_upto_if 110 with fail
              go_cut [17] from 85 to 161 (fun s17 wx => ∃ gw cw, s17 = .slice (some ⟨gw, 0, none⟩) 16 cw ∧ Hid (wx.ownsRow 0 9 1 s17 16 (strV (Dk.kept D chg byt))) ∧ Hid (DkK w wx w.heap.size (Dk.crash D chg byt) (fun b => b = gw)))
              case first =>
                cases bb with
                | false =>
                  have hke : Dk.kept D chg byt = Dk.stateAt D q := by
                    rw [HKM.out]
                    cases ho : apps[q]? with
                    | none => rfl
                    | some o =>
                      have := hbf rfl o ho
                      simp only
                      rw [if_neg this]
                  have HKE := Lib.hid hke
                  clear hke
                  go_wp2_with fail
                  go_meet
                  case rel =>
                    refine ⟨gw, cw, rfl, Lib.hid ?_, Lib.hid (H6.out.less (fun b hb => .inr ⟨by omega, by omega⟩))⟩
                    rw [HKE.out]
                    exact HO6.out
                | true =>
                  obtain ⟨o, ho, hk0⟩ := hbt rfl
                  obtain ⟨hrg1, hrg2, hrg3⟩ := HMD.out.range o (List.mem_of_getElem? ho)
                  have hke : Dk.kept D chg byt = Dk.part o.f.toNat o.s (Dk.clip byt o.s.size) (Dk.stateAt D q) := by
                    rw [HKM.out, ho]
                    simp only
                    rw [if_pos hk0]
                  obtain ⟨ab, ao, hae, hal, -, a1, -, -, a4⟩ := reads5 (Reads.own HR6.out.row2) q o ho
                  cases hae
                  have hqn2 : (q : Int) < (N : Int) := by
                    have := (List.getElem?_eq_some_iff.1 ho).1
                    rw [HN.out] at this
                    omega
                  obtain ⟨ok, of_, on, om, os⟩ := o
                  simp only at a1 a4 hk0 hke hrg1 hrg2 hrg3
                  obtain ⟨fn, rfl⟩ : ∃ fn : Nat, of_ = fn := ⟨of_.toNat, by omega⟩
                  have hf16 : (fn : Int) < 16 := hrg3
                  rw [Int.toNat_natCast] at hke
                  have c1 := row_cells (by omega) HO6.out fn (by omega)
                  rw [Nat.zero_add] at c1
                  have c2 := HO6.out.frozenAt fn
                  have hszs := size_made HS9.out HMD.out (by rw [ho, hk0]) (by omega)
                  have hdone := fun v => want_done (fn := fn) (v := v) H6.out (.inr ⟨hgw.1, hgw.2⟩) (by have := H5.out.bel.size; omega) HO6.out
                  have HDONE := Lib.hid hdone
                  rw [show Dk.part fn os (Dk.clip byt os.size) (Dk.stateAt D q) = (Dk.stateAt D q).set fn (Dk.at' (Dk.stateAt D q) fn ++ os.extract 0 (Dk.clip byt os.size)) from rfl] at hke
                  rw [show Dk.at' (Dk.stateAt D q) fn = (Dk.at' (Dk.stateAt D q) fn) from rfl] at hke
                  have HKE := Lib.hid hke
                  clear hdone
                  rw [show (Dk.stateAt D q).getD fn ByteArray.empty = Dk.at' (Dk.stateAt D q) fn from rfl] at c1
                  obtain ⟨t0, ht0⟩ : ∃ t0, Dk.at' (Dk.stateAt D q) fn = t0 := ⟨_, rfl⟩
                  have HT0 := Lib.hid ht0
                  rw [ht0] at c1 hszs
                  have hs0 : ((os.size : Int) < 0) = False := by simp
                  have hs1 : ((0 : Int) ≤ (os.size : Int)) = True := by simp
                  have hs2 : ((os.size : Int) ≤ (os.size : Int)) = True := by simp
                  clear hke ho ht0 hbt hbf hrg1 hrg2 hrg3
                  go_upto_region 27 with fail
                  by_cases h1 : (os.size : Int) < byt
                  · have m2 : min byt (os.size : Int) = (os.size : Int) := by omega
                    have m3 : max (os.size : Int) 0 = (os.size : Int) := by omega
                    have m4 : (os.size : Int) ≤ byt := by omega
                    have m7 : ¬ (os.size : Int) < 0 := by omega
                    have hk : Dk.clip byt os.size = os.size := by unfold Dk.clip; omega
                    have HK := Lib.hid hk
                    have hsum : (9223372036854775807 < t0.size + os.size) = False := by simp; omega
                    clear hk
                    refine wp_region_still_tail 24 (by kernel_rfl) (by kernel_rfl) ?_
                    simp only [List.take_succ_cons, List.take_zero, List.drop_succ_cons, List.drop_zero]
                    change wpStill _ _ wc.drew (fun a' => wpList _ _ _ _ a' wc.drew) _ _
                    repeat still_step
                    refine wpStill_nil ?_
                    go_wp2_with fail
                    go_meet
                    case rel =>
                      refine ⟨gw, cw, rfl, Lib.hid ?_, Lib.hid (HDONE.out _).2⟩
                      have hdo := (HDONE.out (Dk.at' (Dk.stateAt D q) fn ++ os.extract 0 (Dk.clip byt os.size))).1
                      rw [← HKE.out, HT0.out, HK.out] at hdo
                      rw [Dk.extract_all] at hdo
                      exact hdo
                  · by_cases h2 : byt < 0
                    · have m2 : min byt (os.size : Int) = byt := by omega
                      have m3 : max byt 0 = 0 := by omega
                      have m5 : byt ≤ (os.size : Int) := by omega
                      have m6 : byt ≤ 0 := by omega
                      have m7 : byt < (os.size : Int) := by omega
                      have m8 : ¬ 0 < byt := by omega
                      have hk : Dk.clip byt os.size = 0 := by unfold Dk.clip; omega
                      have HK := Lib.hid hk
                      have hsum : (9223372036854775807 < t0.size) = False := by simp; omega
                      have he : t0 ++ os.extract 0 0 = t0 := by simp
                      have HE := Lib.hid he
                      clear hk he
                      refine wp_region_still_tail 24 (by kernel_rfl) (by kernel_rfl) ?_
                      simp only [List.take_succ_cons, List.take_zero, List.drop_succ_cons, List.drop_zero]
                      change wpStill _ _ wc.drew (fun a' => wpList _ _ _ _ a' wc.drew) _ _
                      repeat still_step
                      refine wpStill_nil ?_
                      go_wp2_with fail
                      go_meet
                      case rel =>
                        refine ⟨gw, cw, rfl, Lib.hid ?_, Lib.hid (HDONE.out _).2⟩
                        have hdo := (HDONE.out (Dk.at' (Dk.stateAt D q) fn ++ os.extract 0 (Dk.clip byt os.size))).1
                        rw [← HKE.out, HT0.out, HK.out] at hdo
                        rw [HE.out] at hdo
                        exact hdo
                    · obtain ⟨m', rfl⟩ : ∃ m' : Nat, byt = m' := ⟨byt.toNat, by omega⟩
                      have m2 : min (m' : Int) (os.size : Int) = (m' : Int) := by omega
                      have m3 : max (m' : Int) 0 = (m' : Int) := by omega
                      have m5 : (m' : Int) ≤ (os.size : Int) := by omega
                      have m6 : (0 : Int) ≤ (m' : Int) := by omega
                      have m7 : ¬ (m' : Int) < 0 := by omega
                      have hk : Dk.clip (m' : Int) os.size = m' := by unfold Dk.clip; omega
                      have HK := Lib.hid hk
                      have hsum : (9223372036854775807 < t0.size + min m' os.size) = False := by simp; omega
                      clear hk
                      refine wp_region_still_tail 24 (by kernel_rfl) (by kernel_rfl) ?_
                      simp only [List.take_succ_cons, List.take_zero, List.drop_succ_cons, List.drop_zero]
                      change wpStill _ _ wc.drew (fun a' => wpList _ _ _ _ a' wc.drew) _ _
                      repeat still_step
                      refine wpStill_nil ?_
                      go_wp2_with fail
                      go_meet
                      case rel =>
                        refine ⟨gw, cw, rfl, Lib.hid ?_, Lib.hid (HDONE.out _).2⟩
                        have hdo := (HDONE.out (Dk.at' (Dk.stateAt D q) fn ++ os.extract 0 (Dk.clip (m' : Int) os.size))).1
                        rw [← HKE.out, HT0.out, HK.out] at hdo
                        exact hdo
              case rest =>
                obtain ⟨gw2, cw2, rfl, HO7, H7⟩ := hcut
                have hkl : (Dk.kept D chg byt).length = 16 := (Dk.kept_ok HS9.out chg byt).1
                have hal := all_live H7.out rfl
                rw [show (Dk.crash D chg byt).now = Dk.kept D chg byt from rfl] at hal
                unfold ptr at hal
                go_wp2_with fail
                refine hal.mono ?_
                clear hal
                rintro e w8 ⟨ga, ca, rfl, hown, hb8, hk8, hg1, hg2⟩
                have ho8 := own_kept HO7.out (w' := w8) (fun b hb => hb8.block b (by
                  simp only [Value.ownBlock, Option.some.injEq] at hb
                  subst hb
                  obtain ⟨F, _, _, _, h7⟩ := H7.out
                  exact (h7 _ rfl).1))
                have HEQ := Lib.hid (eq_rows hkl (own_zero hown) ho8)
                have HO8 := Lib.hid ho8
                have H8 := Lib.hid (hk8.less (K' := fun b => b = gw2) (fun b hb => .inl hb))
                clear hown hb8 hk8 hg1 hg2 ho8
                go_wp2_with fail
                refine HEQ.out.mono ?_
                rintro e w9 ⟨rfl, hb9⟩
                have H9 := Lib.hid ((H8.out.grow hb9).less (K' := fun b => b = gw2) (fun b hb => .inl hb))
                have HO9 := Lib.hid (own_kept HO8.out (w' := w9) (fun b hb => hb9.block b (by
                  simp only [Value.ownBlock, Option.some.injEq] at hb
                  subst hb
                  obtain ⟨F, _, _, _, h7⟩ := H8.out
                  exact (h7 _ rfl).1)))
                clear hb9
                have hlo := live_loose H9.out.live
                have hon := live_on H9.out.live
                rw [show (Dk.crash D chg byt).loose.length = 0 from rfl] at hlo
                rw [show (Dk.crash D chg byt).off = false from rfl] at hon
                unfold ptr at hlo hon
                go_wp2_with fail
                refine hlo.mono ?_
                rintro e w10 ⟨rfl, rfl⟩
                go_wp2_with fail
                refine hon.mono ?_
                rintro e w10 ⟨rfl, rfl⟩
                clear hlo hon
                have hcr := dkk_crash H9.out byt chg
                unfold ptr at hcr
                go_wp2_with fail
                refine hcr.mono ?_
                clear hcr
                rintro e w10 ⟨rfl, h10, hk10, hs10⟩
                have HO10 := Lib.hid (own_kept HO9.out (w' := w10) (fun b hb => hk10 b (by
                  simp only [Value.ownBlock, Option.some.injEq] at hb
                  exact hb.symm)))
                have H10 := Lib.hid h10
                clear h10 hk10 hs10
                have hal := all_live H10.out rfl
                rw [Dk.crash_twice, show (Dk.crash D chg byt).now = Dk.kept D chg byt from rfl] at hal
                unfold ptr at hal
                go_wp2_with fail
                refine hal.mono ?_
                clear hal
                rintro e w11 ⟨gb, cb, rfl, hown, hb11, hk11, hg1, hg2⟩
                have ho11 := own_kept HO10.out (w' := w11) (fun b hb => hb11.block b (by
                  simp only [Value.ownBlock, Option.some.injEq] at hb
                  subst hb
                  obtain ⟨F, _, _, _, h7⟩ := H10.out
                  exact (h7 _ rfl).1))
                have HEQ2 := Lib.hid (eq_rows hkl (own_zero hown) ho11)
                have H11 := Lib.hid hk11.live
                clear hown hb11 hk11 hg1 hg2 ho11
                go_wp2_with fail
                refine HEQ2.out.mono ?_
                rintro e w12 ⟨rfl, hb12⟩
                have H12 := Lib.hid (H11.out.below hb12)
                clear hb12
                go_wp2_with fail
                refine (works_any _).mono ?_
                rintro e w13 ⟨rfl, hb13⟩
                go_wp2_with fail
                go_ret
                exact ⟨rfl, (H12.out.below hb13).bel⟩
    · have H2 := Lib.hid (H.out.below hb2)
      clear hb2
      go_wp2_with fail
      refine (works_any _).mono ?_
      rintro e w3 ⟨rfl, hb⟩
      go_wp2_with fail
      go_ret
      exact ⟨rfl, (H2.out.below hb).bel⟩
  · go_enter Try.func6, Try.ntmps6
    go_wp2_with fail
    refine (new_bad room w hrm).mono ?_
    rintro e w1 ⟨rfl, rfl⟩
    go_wp2_with fail
    refine (works_any _).mono ?_
    rintro e w3 ⟨rfl, hb⟩
    go_wp2_with fail
    go_ret
    exact ⟨rfl, hb⟩

end Go.Proofs.Ytdnjmihalmhddaa
