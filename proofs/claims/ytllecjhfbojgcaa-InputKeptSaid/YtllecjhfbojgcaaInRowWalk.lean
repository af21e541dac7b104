/-
  The walk through InputRow.
-/
import Derived.Test.YtllecjhfbojgcaaInSound
import Derived.Test.YtllecjhfbojgcaaInK
import Derived.Test.YtllecjhfbojgcaaInWorks
import Derived.BigRegion
namespace Go.Proofs.Ytllecjhfbojgcaa
open Go.RowKit
set_option maxRecDepth 20000

/-- An input that was made since w0, and a row with its records. -/
structure AddAt (w0 wr : World) (n d l0 l1 : Nat) (lv : Value) (S : InSt) (va : Value) (K : Nat → Prop) (j : Nat) : Prop where
  ink : InK w0 wr n d l0 l1 lv S K
  row : RowAt wr 32 3 va S.rs.length (inCells S.rs)
  own : ∀ b, va.ownBlock = some b → K b ∧ w0.heap.size ≤ b
  sound : Sound S
  fit : InFit j S

theorem AddAt.mono {w0 wr : World} {n d l0 l1 : Nat} {lv : Value} {S : InSt} {va : Value} {K : Nat → Prop} {i j : Nat} (h : AddAt w0 wr n d l0 l1 lv S va K i) (hj : i ≤ j) : AddAt w0 wr n d l0 l1 lv S va K j := by
  have h1 := Nat.mul_le_mul_right inC hj
  exact ⟨h.ink, h.row, h.own, h.sound, ⟨Nat.le_trans h.fit.n hj, Nat.le_trans h.fit.m hj, Nat.le_trans h.fit.b0 h1, Nat.le_trans h.fit.b1 h1, h.fit.p⟩⟩
theorem RowAt.lt {w : World} {e : TypeId} {size n : Nat} {v : Value} {xs : List Value} (h : RowAt w e size v n xs) : ∀ b, v.ownBlock = some b → b < w.heap.size := fun b hb => by
  obtain ⟨cur, hcur⟩ := h.type b hb
  exact (Array.getElem?_eq_some_iff.1 hcur).1
theorem RowAt.below {w w' : World} {e : TypeId} {size n : Nat} {v : Value} {xs : List Value} (h : RowAt w e size v n xs) (hb : Below w.heap.size w w') : RowAt w' e size v n xs :=
  h.kept (fun b h1 => hb.block b (h.lt b h1))

/-- Behind a record that was added, and the append of it. -/
theorem AddAt.push {w0 w5 w6 V : World} {n d l0 l1 gg cap g : Nat} {lv lv' : Value} {S : InSt} {va : Value} {j : Nat} {x : InR} {K : Nat → Prop} (h : AddAt w0 V n d l0 l1 lv S va K j)
    (h5 : InK w0 w5 n d l0 l1 lv' (S.add x).2 (fun b => va.ownBlock = some b ∨ b = g)) (hrs : (S.add x).2.rs = S.rs ++ [x]) (hsd : Sound (S.add x).2) (hf : InFit (j + 1) (S.add x).2) {o : Obj}
    (hown : w6.ownsRow 0 32 3 (.slice (some ⟨gg, 0, none⟩) (S.rs.length + 1) cap) (S.rs.length + 1) (inCells S.rs ++ [.int .i64 x.part, .int .i64 x.key, .int .i64 x.val]))
    (hgrow : (w5.alloc o).grownBy w6 va.ownBlock) (hat : va.ownBlock = some gg ∨ (w5.alloc o).heap.size ≤ gg) (hltg : gg < w6.heap.size) :
    AddAt w0 w6 n d l0 l1 lv' (S.add x).2 (.slice (some ⟨gg, 0, none⟩) (S.rs.length + 1) cap) (fun b => (Value.slice (some ⟨gg, 0, none⟩) (S.rs.length + 1) cap).ownBlock = some b) (j + 1) := by
  have hvb := h.own
  have hnew : ∀ b, w0.heap.size ≤ b → ¬ (Fr.all w0).K b := fun b hb e => by
    have e : b < w0.heap.size := e
    omega
  have hK6 := h5.push (v := va) (g := gg) (K' := fun _ => False) (fun b hb => ⟨.inl hb, hnew b (hvb b hb).2⟩) hgrow hat hltg (fun b hb => hb.elim)
  refine ⟨hK6.less (fun b hb => ?_), .inl ?_, fun b hb => ⟨hb, ?_⟩, hsd, hf⟩
  · simp only [Value.ownBlock, Option.some.injEq] at hb
    exact .inr hb.symm
  · rw [hrs, inCells_snoc, List.length_append]
    exact hown
  · simp only [Value.ownBlock, Option.some.injEq] at hb
    subst hb
    rcases hat with h1 | h1
    · exact (hvb gg h1).2
    · have h2 := h5.old.size
      have h3 : w0.heap.size ≤ w5.heap.size := h2
      simp at h1
      omega

set_option maxHeartbeats 16000000 in
set_option maxRecDepth 100000 in
theorem inputRow_walk (v : Value) (l : List InR) (w : World) (hr : Reads w v l.length (inCells l)) (hi : ∀ r ∈ l, Cl.In64 r.key ∧ Cl.In64 r.val) :
    Calls Try.prog 5 #[v] w fun e w' => e = .returned (.bool true) ∧ Below w.heap.size w w' := by
  have hlen := hr.lenLe
  unfold maxLen at hlen
  have HR := Lib.hid hr
  have HI := Lib.hid hi
  obtain ⟨i0, hi0, hz0, hz1, hz2⟩ := info_parts infoIn
  obtain ⟨a, c, rfl⟩ := hr.shape
  clear hr hi
  by_cases hbig : 100 < l.length
  · have hb1 : (100 : Int) < (l.length : Int) := by omega
    go_enter Try.func5, Try.ntmps5
    go_wp2_with fail
    refine (inworks_any _).mono ?_
    rintro e w1 ⟨rfl, hb⟩
    go_wp2_with fail
    go_ret
    exact ⟨rfl, hb⟩
  · have hb1 : ¬ (100 : Int) < (l.length : Int) := by omega
    obtain ⟨m, hm⟩ : ∃ m, l.length = m := ⟨_, rfl⟩
    have HM := Lib.hid hm
    rw [hm] at hb1 hlen hbig
    rw [hm]
    go_enter Try.func5, Try.ntmps5
    go_wp2_with fail
    refine (live_new 4194304 w (by decide)).mono ?_
    rintro e w1 ⟨rfl, h⟩
    have H := Lib.hid (show Live w w1 w.heap.size (Dk.fresh 4194304) from h)
    clear h
    unfold ptr
    go_wp2_with fail
    refine (in_open w1 w.heap.size w _ H.out (by kernel_rfl) (by kernel_rfl)).mono ?_
    rintro e w2 ⟨n, l0, l1, rfl, h⟩
    have HN := Lib.hid (show AddAt w w2 n w.heap.size l0 l1 (.slice none 0 0) ⟨Dk.fresh 4194304, ⟨[], 0⟩, ⟨[], 0⟩, []⟩ (.slice none 0 0) (fun b => (Value.slice none 0 0).ownBlock = some b) 0 from ⟨h.keep.less (fun k hk => by simp [Value.ownBlock] at hk), .inl (World.ownsRow_nil _ _ _ _), fun b hb => by simp [Value.ownBlock] at hb, Sound.fresh, ⟨Nat.le_refl _, Nat.le_refl _, Nat.zero_le _, Nat.zero_le _, fun x hx => by cases hx⟩⟩)
    clear h
    unfold ptr
    go_wp2_with fail
    go_loopw [7, 35] (fun va i wr => ∃ (j : Nat) (lv : Value) (S : InSt), j ≤ m ∧ i = .int .i64 (j : Int) ∧ Hid (AddAt w wr n w.heap.size l0 l1 lv S va (fun b => va.ownBlock = some b) j) ∧ Hid (Lg.Free S.D)) (fun _ i _ => m - (intOf i).toNat)
    case atStart => exact ⟨0, _, _, Nat.zero_le _, rfl, HN, Lib.hid ⟨rfl, rfl⟩⟩
    case round =>
      obtain ⟨j, lv, S, hj, rfl, HS, HF⟩ := hrel
      obtain ⟨va, rfl⟩ : ∃ x, x = u7 := ⟨_, rfl⟩
      by_cases hlt : j < m
      · obtain ⟨x, hx⟩ : ∃ x, l[j]? = some x := ⟨l[j]'(by rw [HM.out]; omega), by simp⟩
        obtain ⟨b, o, cap, hv, hcap, hcm, hblt, hcells⟩ := HR.out.some (by rw [HM.out]; omega)
        cases hv
        obtain ⟨j0, j1, j2⟩ := inCells_at l j x hx
        have hbl : Below w.heap.size w wr := HS.out.ink.live.bel
        have r0 := (World.cell?_of_block (hbl.block b hblt)).trans (hcells _ _ j0)
        have r1 := (World.cell?_of_block (hbl.block b hblt)).trans (hcells _ _ j1)
        have r2 := (World.cell?_of_block (hbl.block b hblt)).trans (hcells _ _ j2)
        rw [← Nat.add_assoc] at r1 r2
        have hjk : (j : Int) < (m : Int) := by omega
        have HX := Lib.hid (HI.out x (List.mem_of_getElem? hx))
        clear j0 j1 j2 hbl hx hcells
        have hSn := HS.out.fit.n
        have HK1 := Lib.hid ((HS.out.ink.grow (bel_alloc wr (.cells #[.int .i64 x.part, .int .i64 x.key, .int .i64 x.val] 32))).less (K' := fun b => va.ownBlock = some b ∨ b = wr.heap.size) (fun b e => by
          rcases e with e | e
          · exact .inl e
          · exact .inr ⟨by omega, by rw [e]; simp⟩))
        have HRW := Lib.hid (HS.out.row.below (bel_alloc wr (.cells #[.int .i64 x.part, .int .i64 x.key, .int .i64 x.val] 32)))
        have hadd := ink_add HK1.out HS.out.fit (by omega) x HX.out.1 HX.out.2
        have hfit := HS.out.fit.add x
        have hxn := heap_alloc_new wr (.cells #[.int .i64 x.part, .int .i64 x.key, .int .i64 x.val] 32)
        have HXN := Lib.hid hxn
        have HFIT := Lib.hid hfit
        have hvg := HS.out.row.lt
        have HVG := Lib.hid hvg
        have HBA := Lib.hid (bel_alloc wr (.cells #[.int .i64 x.part, .int .i64 x.key, .int .i64 x.val] 32))
        by_cases hx2 : x.part = 0 ∨ x.part = 1
        · have hso := HS.out.sound.add (by omega) x hx2 HX.out
          rcases hso with ⟨q1, q2, q3, q4⟩ | ⟨q1, q2, -⟩
          · rw [q1] at hadd
            have HQ2 := Lib.hid q2
            have HQ3 := Lib.hid q3
            have HQ4 := Lib.hid (q4 HF.out)
            have HADD := Lib.hid hadd
            obtain ⟨p, kk, vv⟩ := x
            have hp0 : ¬ p < 0 := by
              have hx2 : p = 0 ∨ p = 1 := hx2
              omega
            have hp1 : 0 ≤ p := by omega
            have hp2 : p < 2 := by
              have hx2 : p = 0 ∨ p = 1 := hx2
              omega
            simp only at r0 r1 r2
            clear hadd hfit hxn hvg q1 q2 q3 q4 hx2
            unfold InR.val' ptr at HADD
            go_wp2_with fail
            refine HADD.out.mono ?_
            rintro e w5 ⟨lv', rfl, h5, hk5, hs5⟩
            have H5 := Lib.hid h5
            have hX5 := (hk5 wr.heap.size (.inr rfl)).trans HXN.out
            have s0 := cells_at hX5 0 _ rfl
            have s1 := cells_at hX5 1 _ rfl
            have s2 := cells_at hX5 2 _ rfl
            simp only [List.getElem_toArray, List.getElem_cons_zero, List.getElem_cons_succ] at s0 s1 s2
            have HRW5 := Lib.hid (HRW.out.kept (fun b hb => hk5 b (.inl hb)))
            have hgl5 : wr.heap.size < w5.heap.size := (Array.getElem?_eq_some_iff.1 hX5).1
            clear h5 hk5 hs5 hX5
            go_wp2_with (at_builtin; refine wpList_append_row rfl _ _ 39 rfl 32 i0 (.agg #[.int .i64 0, .int .i64 0, .int .i64 0]) 3 24 Try.underlying39 hi0 hz0 hz1 hz2 rfl (by decide) va S.rs.length (inCells S.rs) (by rfl) (HRW5.out.kept (fun b hb => Below.heap_alloc _ _ _ (HRW5.out.lt b hb))) ⟨w5.heap.size, 0, none⟩ 1 1 [.int .i64 p, .int .i64 kk, .int .i64 vv] rfl rfl (by intro jj u hj; rw [addr_add, Nat.zero_add]; exact cell_row w5 _ _ jj u (by simpa using hj)) (by simp [Value.oneCell']) (by decide) (by unfold maxLen; omega) (by omega) ?_)
            intro gg cap2 w6 hown6 hgrow hat hltg
            have hN := AddAt.push (x := ⟨p, kk, vv⟩) HS.out H5.out HQ2.out HQ3.out HFIT.out hown6 hgrow (hat.imp id (fun h => by simpa using h)) hltg
            have HN2 := Lib.hid hN
            clear hown6 hgrow hat hN
            go_wp2_with fail
            go_roundw
            case rel => exact ⟨j + 1, lv', _, by omega, by go_num, HN2, HQ4⟩
            case measure => simp [intOf]; omega
          · exact absurd HF.out q2
        · rw [add_bad (by omega)] at hadd hfit
          have HADD := Lib.hid hadd
          have HAD := Lib.hid HS.out.own
          obtain ⟨p, kk, vv⟩ := x
          have hx3 : p < 0 ∨ 2 ≤ p := by
            have hx2 : ¬ (p = 0 ∨ p = 1) := hx2
            omega
          simp only at r0 r1 r2
          unfold InR.val' ptr at HADD
          clear hadd hfit hxn hvg hx2
          rcases hx3 with hx3 | hx3
          · have hp1 : ¬ 0 ≤ p := by omega
            go_wp2_with fail
            refine HADD.out.mono ?_
            rintro e w5 ⟨lv', rfl, h5, hk5, hs5⟩
            have HN2 : Hid (AddAt w w5 n w.heap.size l0 l1 lv' S va (fun b => va.ownBlock = some b) (j + 1)) := Lib.hid ((AddAt.mk (h5.less (fun b hb => .inl hb)) (HRW.out.kept (fun b hb => hk5 b (.inl hb))) HS.out.own HS.out.sound HS.out.fit).mono (by omega))
            clear h5 hk5 hs5
            go_wp2_with fail
            go_roundw
            case rel => exact ⟨j + 1, lv', S, by omega, by go_num, HN2, HF⟩
            case measure => simp [intOf]; omega
          · have hp1 : 0 ≤ p := by omega
            have hp2 : ¬ p < 2 := by omega
            go_wp2_with fail
            refine HADD.out.mono ?_
            rintro e w5 ⟨lv', rfl, h5, hk5, hs5⟩
            have HN2 : Hid (AddAt w w5 n w.heap.size l0 l1 lv' S va (fun b => va.ownBlock = some b) (j + 1)) := Lib.hid ((AddAt.mk (h5.less (fun b hb => .inl hb)) (HRW.out.kept (fun b hb => hk5 b (.inl hb))) HS.out.own HS.out.sound HS.out.fit).mono (by omega))
            clear h5 hk5 hs5
            go_wp2_with fail
            go_roundw
            case rel => exact ⟨j + 1, lv', S, by omega, by go_num, HN2, HF⟩
            case measure => simp [intOf]; omega
      · have hje : j = m := by omega
        subst hje
        have hjj : ¬ (j : Int) < (j : Int) := by omega
        clear hlt
        have hSn := HS.out.fit.n
        obtain ⟨D1, D2, ho0, ho1, -, -⟩ := tear_open (HS.out.sound.tear HF.out) (HS.out.sound.size (by omega)) HS.out.sound.part HS.out.sound.in64
        obtain ⟨f, hf1, hf2⟩ := HS.out.ink.disk.call
        have hop := inopen_recs f wr w.heap.size S.D D1 D2 hf1 S.rs (by omega) HS.out.sound.part HS.out.sound.in64 ho0 ho1
        have hrw := HS.out.row
        have hin := HS.out.ink.live.rowOf
        obtain ⟨L, hL⟩ : ∃ L, S.rs.length = L := ⟨_, rfl⟩
        obtain ⟨va', vc, rfl⟩ := hrw.reads.shape
        have HOP := Lib.hid hop
        have HF2 := Lib.hid hf2
        have HRW := Lib.hid hrw
        have HIN := Lib.hid hin
        have hvl := hrw.reads.lenLe
        unfold maxLen at hvl
        have HL := Lib.hid hL
        rw [hL] at hSn hvl ⊢
        unfold ptr at HOP
        clear ho0 ho1 hf1 hf2 hop hrw hin hL
        go_wp2_with fail
        refine HOP.out.mono ?_
        rintro e w5 ⟨n2, l02, l12, lv2, rfl, h5⟩
        obtain ⟨h6, hk6, -⟩ := HF2.out _ _ _ _ _ _ h5
        have HIN1 := Lib.hid (HIN.out.kept (fun k hk => hk6 k (.inr hk)))
        have HIN2 := Lib.hid (show InRow w5 n2 lv2 S.rs from h6.live.rowOf)
        have hrd := (HRW.out.kept (fun b hb => hk6 b (.inl hb))).reads
        have HRD := Lib.hid hrd
        have HLV := Lib.hid h6.live
        have hl1 := inrow_len HIN1.out
        have hl2 := inrow_len HIN2.out
        rw [HL.out] at hl1 hl2
        unfold ptr at hl1 hl2
        have HL1 := Lib.hid hl1
        have HL2 := Lib.hid hl2
        clear h5 h6 hk6 hrd hl1 hl2
        go_wp2_with fail
        refine HL1.out.mono ?_
        rintro e w6 ⟨rfl, rfl⟩
        go_wp2_with fail
        refine HL2.out.mono ?_
        rintro e w6 ⟨rfl, rfl⟩
        go_wp2_with fail
        go_loopw [82] (fun i wz => ∃ q : Nat, q ≤ L ∧ i = .int .i64 (q : Int) ∧ Hid (Below w5.heap.size w5 wz)) (fun i _ => L - (intOf i).toNat)
        case atStart => exact ⟨0, Nat.zero_le _, rfl, Lib.hid (Below.refl _ _)⟩
        case round =>
          obtain ⟨q, hq, rfl, HB⟩ := hrel
          by_cases hlt : q < L
          · obtain ⟨x, hx⟩ : ∃ x, S.rs[q]? = some x := ⟨S.rs[q]'(by rw [HL.out]; omega), by simp⟩
            have hqk : (q : Int) < (L : Int) := by omega
            obtain ⟨b, o, cap, hv, hcap, hcm, hblt, hcells⟩ := HRD.out.some (by rw [HL.out]; omega)
            cases hv
            obtain ⟨j0, j1, j2⟩ := inCells_at S.rs q x hx
            have r0 := (World.cell?_of_block (HB.out.block b hblt)).trans (hcells _ _ j0)
            have r1 := (World.cell?_of_block (HB.out.block b hblt)).trans (hcells _ _ j1)
            have r2 := (World.cell?_of_block (HB.out.block b hblt)).trans (hcells _ _ j2)
            rw [← Nat.add_assoc] at r1 r2
            have HAT1 := Lib.hid (fun W (hW : Below w5.heap.size w5 W) => inrow_at (HIN1.out.below hW) q (by rw [HL.out]; omega) x hx)
            have HAT2 := Lib.hid (fun W (hW : Below w5.heap.size w5 W) => inrow_at (HIN2.out.below hW) q (by rw [HL.out]; omega) x hx)
            clear j0 j1 j2 hcells hx
            obtain ⟨p, kk, vv⟩ := x
            simp only at r0 r1 r2
            unfold InR.val' ptr at HAT1 HAT2
            have hb1 := bel_trans HB.out (bel_alloc wr (.cells #[.int .i64 p, .int .i64 kk, .int .i64 vv] 32))
            have HB1 := Lib.hid hb1
            have hx1 := heap_alloc_new wr (.cells #[.int .i64 p, .int .i64 kk, .int .i64 vv] 32)
            have HX1 := Lib.hid hx1
            clear hb1 hx1
            go_wp2_with fail
            refine (HAT1.out _ HB1.out).mono ?_
            rintro e w6 ⟨rfl, hb6⟩
            have hx6 := (hb6.block _ (by simp)).trans HX1.out
            have HX6 := Lib.hid hx6
            have hB6 := bel_trans HB1.out hb6
            have hb6' := bel_trans hB6 (bel_alloc w6 (.cells #[.int .i64 p, .int .i64 kk, .int .i64 vv] 32))
            have HB6 := Lib.hid hb6'
            have hy6 := heap_alloc_new w6 (.cells #[.int .i64 p, .int .i64 kk, .int .i64 vv] 32)
            have HY6 := Lib.hid hy6
            have hxl := (Array.getElem?_eq_some_iff.1 hx6).1
            have HXL := Lib.hid hxl
            clear hb6 hx6 hB6 hb6' hy6 hxl
            go_wp2_with fail
            refine (HAT2.out _ HB6.out).mono ?_
            rintro e w7 ⟨rfl, hb7⟩
            have hx7 := (hb7.block _ (by simp; have := HXL.out; omega)).trans ((Below.heap_alloc w6 _ _ HXL.out).trans HX6.out)
            have hy7 := (hb7.block _ (by simp)).trans HY6.out
            have HB7 := Lib.hid (bel_trans HB6.out hb7)
            have hx8 := (Below.heap_alloc w7 (.cells #[.int .i64 p, .int .i64 kk, .int .i64 vv] 32) _ ((Array.getElem?_eq_some_iff.1 hx7).1)).trans hx7
            have hy8 := (Below.heap_alloc w7 (.cells #[.int .i64 p, .int .i64 kk, .int .i64 vv] 32) _ ((Array.getElem?_eq_some_iff.1 hy7).1)).trans hy7
            have hz8 := heap_alloc_new w7 (.cells #[.int .i64 p, .int .i64 kk, .int .i64 vv] 32)
            have x0 := cells_at hx8 0 _ rfl
            have x1 := cells_at hx8 1 _ rfl
            have x2 := cells_at hx8 2 _ rfl
            have y0 := cells_at hy8 0 _ rfl
            have y1 := cells_at hy8 1 _ rfl
            have y2 := cells_at hy8 2 _ rfl
            have z0 := cells_at hz8 0 _ rfl
            have z1 := cells_at hz8 1 _ rfl
            have z2 := cells_at hz8 2 _ rfl
            simp only [List.getElem_toArray, List.getElem_cons_zero, List.getElem_cons_succ] at x0 x1 x2 y0 y1 y2 z0 z1 z2
            have HB8 := Lib.hid (bel_trans HB7.out (bel_alloc w7 (.cells #[.int .i64 p, .int .i64 kk, .int .i64 vv] 32)))
            clear hb7 hx7 hy7 hx8 hy8 hz8
            go_wp2_with fail
            go_roundw
            case rel => exact ⟨q + 1, by omega, by go_num, HB8⟩
            case measure => simp [intOf]; omega
          · have hqe : q = L := by omega
            subst hqe
            have hqq : ¬ (q : Int) < (q : Int) := by omega
            clear hlt
            go_wp2_with fail
            refine (inworks_any _).mono ?_
            rintro e w6 ⟨rfl, hb⟩
            have H := Lib.hid ((HLV.out.below HB.out).below hb)
            clear hb
            go_wp2_with fail
            go_ret
            exact ⟨rfl, H.out.bel⟩

end Go.Proofs.Ytllecjhfbojgcaa
