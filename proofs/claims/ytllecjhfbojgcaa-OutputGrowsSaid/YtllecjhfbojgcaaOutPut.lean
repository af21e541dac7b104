/-
  The output's put walked.
-/
import Derived.Test.YtllecjhfbojgcaaOutLast
import Derived.Test.YtllecjhfbojgcaaFreeRegion
import Derived.Test.YtllecjhfbojgcaaBytesRef
import Derived.Deep.CutRange
import Derived.IntWalk
import Derived.Laws.OwnMore
namespace Go.Proofs.Ytllecjhfbojgcaa
open Go.RowKit
set_option maxRecDepth 20000

theorem infoORec : (Try.prog.info? 142).map (fun i => (i.zero, i.size, i.bytes)) = some (some (.agg #[.int .u8 0, .int .i64 0, .slice none 0 0]), 3, 40) := by kernel_rfl

/-- Behind an append of two elements to a row of the call's own. -/
theorem below_pushed3 {W wr w' : World} {e : TypeId} {size : Nat} {v : Value} {n : Nat} {xs : List Value} (hb : Below W.heap.size W wr) (hown : wr.ownsRow W.heap.size e size v n xs) (o1 o2 : Obj) (hg : ((wr.alloc o1).alloc o2).grownBy w' v.ownBlock) : Below W.heap.size W w' :=
  ((hb.alloc hb.size o1).alloc (by have := hb.size; simp; omega) o2).grown hg (by have := hb.size; simp; omega) (fun k hk => (hown.lt k hk).1)

set_option maxHeartbeats 16000000 in
set_option maxRecDepth 100000 in
theorem oput_any {fr : Fr} {w : World} {o d : Nat} {b l : Bool → Nat} {S : OSt} {col : Nat → Nat} (h : OutAt fr w o d b l S col) (p : Bool) (r : ORec) (v : Value) (hv : Reads w v r.l.length (outCells r.l)) (hvo : OwnsOut w v (fun k => col k = cP p))
    (hrn : Cl.In64 r.n) (hrl : OIn r.l) (hrk : r.l.length ≤ 1000) (hm : S.D.loose.length ≤ 1000000000) (hbig : (Lg.bytesOf (S.L p).rs).length ≤ 900000000) (hn : (S.r p).length ≤ 1000000000) (kz : Int) (hkz : (r.kind.toNat : Int) = kz) :
    Calls Try.prog 73 #[ptr (b p) 0, .agg #[.int .u8 kz, .int .i64 r.n, v]] w fun e w' => e = .returned (.int .i64 (S.put p r).1) ∧ ∃ col', OutAt fr w' o d b l (S.put p r).2 col' := by
  obtain ⟨i0, hi0, hz0, hz1, hz2⟩ := info_parts infoI64
  obtain ⟨j0, hj0, hy0, hy1, hy2⟩ := info_parts infoORec
  have hsz := entO_size r
  have hpl := fun (X : World) (hX : OutAt fr X o d b l S col) => oat_put hX p (entO r) (by omega) hm hbig
  have hpu : S.put p r = if (S.lput p (entO r)).1 = 0 then (0, (S.lput p (entO r)).2.row p r) else S.lput p (entO r) := rfl
  have hTr : (S.lput p (entO r)).2.r = S.r := rfl
  rw [hpu]
  obtain ⟨E, T, hET⟩ : ∃ E T, S.lput p (entO r) = (E, T) := ⟨_, _, rfl⟩
  rw [hET] at hpl hTr ⊢
  rw [show ((entO r).kind.toNat : Int) = kz from hkz, show (entO r).text = ⟨(Cl.put (r.n :: flatO r.l)).toArray⟩ from rfl] at hpl
  obtain ⟨Z, hZ⟩ : ∃ Z, (if (E, T).1 = 0 then (0, (E, T).2.row p r) else (E, T)) = Z := ⟨_, rfl⟩
  rw [hZ]
  have HZ0 := Lib.hid (show E = 0 → Z = (0, T.row p r) from fun he => by rw [← hZ, if_pos he])
  have HZE := Lib.hid (show E ≠ 0 → Z = (E, T) from fun he => by rw [← hZ, if_neg he])
  have HPL := Lib.hid hpl
  have HTR := Lib.hid (show T.r = S.r from hTr)
  clear hpl hpu hTr hET hZ
  obtain ⟨W, hW⟩ : ∃ W, w.alloc (.cells #[.int .u8 kz, .int .i64 r.n, v] 142) = W := ⟨_, rfl⟩
  have hbW : Below w.heap.size w W := by rw [← hW]; exact bel_alloc _ _
  have hbox : W.heap[w.heap.size]? = some (.cells #[.int .u8 kz, .int .i64 r.n, v] 142) := by rw [← hW]; exact heap_alloc_new w _
  have hWs : W.heap.size = w.heap.size + 1 := by rw [← hW]; simp
  have hAW := h.below hbW
  have hrdW := hv.below hbW
  have hvoW : OwnsOut W v (fun k => col k = cP p) := hvo.kept (fun k hk => hbW.block k ((h.part p).lt k hk))
  have hcolb : col w.heap.size = 0 := by
    by_cases e : col w.heap.size = 0
    · exact e
    · have := h.lt _ e; omega
  have hput := fun (X : World) (x : Value) (hX : Reads X x (r.n :: flatO r.l).length (ints (r.n :: flatO r.l))) => putR_any x (r.n :: flatO r.l) X hX (by rw [List.length_cons, flatO_len]; omega) (fun n hn => by
    rcases List.mem_cons.1 hn with rfl | hn
    · exact hrn
    · exact hrl.flat n hn)
  obtain ⟨va, vc, rfl⟩ := hv.shape
  obtain ⟨m, hmm⟩ : ∃ m, r.l.length = m := ⟨_, rfl⟩
  have HH := Lib.hid hAW
  have HRD := Lib.hid hrdW
  have HVO := Lib.hid hvoW
  have HBOX := Lib.hid hbox
  have HCB := Lib.hid hcolb
  have HPUT := Lib.hid hput
  have HKZ := Lib.hid hkz
  have HMM := Lib.hid hmm
  have HSZ := Lib.hid hsz
  have HM := Lib.hid hm
  have HBIG := Lib.hid hbig
  have HNN := Lib.hid hn
  have HWS := Lib.hid hWs
  have HOLD := Lib.hid h.lt
  rw [hmm] at hrk hW hbox HBOX hvo hvoW HVO
  have b0 := cells_at hbox 0 _ rfl
  have b1 := cells_at hbox 1 _ rfl
  have b2 := cells_at hbox 2 _ rfl
  simp only [List.getElem_toArray, List.getElem_cons_zero, List.getElem_cons_succ] at b0 b1 b2
  obtain ⟨g, hg⟩ : ∃ g, w.heap.size = g := ⟨_, rfl⟩
  rw [hg] at b0 b1 b2 HBOX HCB HWS
  rw [hmm]
  clear h hv hvo hAW hrdW hvoW hcolb hput hkz hmm hsz hm hbig hn hbox hWs hrn hrl hbW
  unfold ptr
  go_enter Try.func73, Try.ntmps73
  have HW := Lib.hid hW
  have HG := Lib.hid hg
  clear hW hg
  go_wp2_with fail
  rw [HW.out, HG.out]
  have hws := HWS.out
  have hown0 : (W.alloc (.cells #[.int .i64 r.n] 2)).ownsRow W.heap.size 2 1 (.slice (some ⟨g + 1, 0, none⟩) 1 1) 1 (ints (r.n :: flatO (r.l.take 0))) := by
    have := World.ownsRow_lit (base := W.heap.size) (e := 2) (size := 1) W #[.int .i64 r.n] 1 (Nat.le_refl _) (by unfold maxLen; decide) rfl
    rw [← hws]
    exact this
  have HOWN0 := Lib.hid hown0
  clear hws hown0
  go_loopw [5, 15] (fun x i wr => ∃ q : Nat, q ≤ m ∧ i = .int .i64 (q : Int) ∧ Hid (wr.ownsRow W.heap.size 2 1 x (1 + 2 * q) (ints (r.n :: flatO (r.l.take q)))) ∧ Hid (Below W.heap.size W wr)) (fun _ i _ => m - (intOf i).toNat)
  case atStart => exact ⟨0, Nat.zero_le _, rfl, HOWN0, Lib.hid (bel_alloc _ _)⟩
  case round =>
    obtain ⟨q, hq, rfl, HOWN, HB⟩ := hrel
    obtain ⟨x, rfl⟩ : ∃ x, x = u5 := ⟨_, rfl⟩
    by_cases hlt : q < m
    · obtain ⟨y, hy⟩ : ∃ y, r.l[q]? = some y := ⟨r.l[q]'(by rw [HMM.out]; omega), by simp⟩
      have hqk : (q : Int) < (m : Int) := by omega
      obtain ⟨b', o', cap, hv, hcap, hcm, hblt, hcells⟩ := HRD.out.some (by rw [HMM.out]; omega)
      cases hv
      obtain ⟨c0, c1⟩ := outCells_at r.l q y hy
      have r0 := (World.cell?_of_block (HB.out.block b' hblt)).trans (hcells _ _ c0)
      have r1 := (World.cell?_of_block (HB.out.block b' hblt)).trans (hcells _ _ c1)
      rw [← Nat.add_assoc] at r1
      have htk : ints (r.n :: flatO (r.l.take (q + 1))) = ints (r.n :: flatO (r.l.take q)) ++ [.int .i64 y.key, .int .i64 y.val] := by
        rw [List.take_add_one, hy]
        show ints (r.n :: flatO (r.l.take q ++ [y])) = _
        rw [flatO_app]
        simp [ints, flatO]
      have HTK := Lib.hid htk
      clear hy c0 c1 hcells htk
      obtain ⟨yk, yv⟩ := y
      simp only at r0 r1 HTK
      obtain ⟨U, hU⟩ : ∃ U, wr.alloc (.cells #[.int .i64 yk, .int .i64 yv] 84) = U := ⟨_, rfl⟩
      have hownU : U.ownsRow W.heap.size 2 1 x (1 + 2 * q) (ints (r.n :: flatO (r.l.take q))) := by rw [← hU]; exact HOWN.out.alloc _
      have hUs : W.heap.size ≤ U.heap.size := by rw [← hU]; have := HB.out.size; simp; omega
      have HOU := Lib.hid hownU
      have HU := Lib.hid hU
      have HUS := Lib.hid hUs
      clear hownU hU hUs
      go_wp2_with ((at_builtin; refine wpList_append_own _ rfl _ _ 102 rfl W.heap.size 2 i0 (.int .i64 0) 1 8 Try.underlying102 hi0 hz0 hz1 hz2 rfl (by decide) x (1 + 2 * q) (ints (r.n :: flatO (r.l.take q))) rfl ?c0 ⟨wr.heap.size + 1, 0, none⟩ 2 2 [.int .i64 yk, .int .i64 yv] rfl rfl ?c1 ?c2 ?c3 ?c4 ?c5 ?_))
      case c0 => rw [HU.out]; exact HOU.out.alloc _
      case c1 =>
        intro jj u hj
        rw [addr_add, Nat.zero_add, HU.out, show wr.heap.size + 1 = U.heap.size by rw [← HU.out]; simp]
        exact cell_row U _ _ jj u (by simpa using hj)
      case c2 => simp [Value.oneCell']
      case c3 => unfold maxLen; omega
      case c4 => omega
      case c5 => rw [HU.out]; have := HUS.out; simp; omega
      intro v' w' hown' hgr _
      have hb' := below_pushed3 HB.out HOWN.out _ _ hgr
      have HB' := Lib.hid hb'
      have hown2 : w'.ownsRow W.heap.size 2 1 v' (1 + 2 * (q + 1)) (ints (r.n :: flatO (r.l.take (q + 1)))) := by
        rw [HTK.out, show 1 + 2 * (q + 1) = 1 + 2 * q + 2 by omega]
        exact hown'
      have HOWN' := Lib.hid hown2
      clear hgr hown' hown2 hb'
      go_wp2_with fail
      go_roundw
      case rel => exact ⟨q + 1, by omega, by go_num, HOWN', HB'⟩
      case measure => simp [intOf]; omega
    · have hqe : q = m := by omega
      subst hqe
      have hqq : ¬ (q : Int) < (q : Int) := by omega
      clear hlt
      have hall : r.l.take q = r.l := List.take_of_length_le (by rw [HMM.out]; exact Nat.le_refl _)
      have hxr : Reads wr x (r.n :: flatO r.l).length (ints (r.n :: flatO r.l)) := by
        have := Reads.own HOWN.out
        rw [hall] at this
        rw [List.length_cons, flatO_len, HMM.out]
        rw [show q * 2 + 1 = 1 + 2 * q by omega]
        exact this
      have HXR := Lib.hid hxr
      have hAr := HH.out.below HB.out
      have hbr := (HB.out.block g (by have := HWS.out; omega)).trans HBOX.out
      obtain ⟨lv, qs, hc, hr, hqs, hlo, hqr⟩ := (hAr.part p).ex
      have c0 := cells_at hc 0 _ rfl
      have c1 := cells_at hc 1 _ rfl
      have d0 := cells_at hbr 0 _ rfl
      have d1 := cells_at hbr 1 _ rfl
      have d2 := cells_at hbr 2 _ rfl
      unfold ptr at c0
      simp only [List.getElem_toArray, List.getElem_cons_zero, List.getElem_cons_succ] at c0 c1 d0 d1 d2
      have HAR := Lib.hid hAr
      have HBR := Lib.hid hbr
      have hglr : g < wr.heap.size := (Array.getElem?_eq_some_iff.1 hbr).1
      have hbl : b p < wr.heap.size := (Array.getElem?_eq_some_iff.1 hc).1
      have HROW := Lib.hid (fun (W' : World) (hb : Below wr.heap.size wr W') => And.intro ((World.cell?_of_block (a := ⟨b p, 0, none⟩) (hb.block (b p) hbl)).trans c0) ((World.cell?_of_block (a := ⟨g, 0, none⟩) (hb.block g hglr)).trans d0))
      clear hall hxr hAr hbr hc hr hqs hlo hqr c0 c1 d0 d1 d2 b0 b1 b2 hglr hbl
      go_upto_region 7 with fail
      refine wp_region_free [0, 1, 2, 3, 4, 5, 6] 8 (fun W' => Below wr.heap.size wr W') (by kernel_rfl) (by kernel_rfl) ?_
      change wpYields _ _ _ _ [_, _, _, _, _, _, _] _
      iterate 7 (refine yields_step (fun K hK => ?_); apply Exists.intro; apply And.intro; (apply yields_at rfl; rintro W' hb; obtain ⟨z0, z1⟩ := HROW.out W' hb; go_simp; first | done | rfl); go_simp; refine hK _ ?_; clear hK K)
      refine yields_nil ?_
      refine anyP_one (k := 7) (by kernel_rfl) (by decide) rfl rfl (bel_drew _) ?_
      refine wpP_step rfl (fun K hK => ?_)
      go_simp
      go_at_call 49
      refine (HPUT.out wr.drew x (HXR.out.below (bel_drew _))).mono ?_
      rintro e w5 ⟨rfl, hb5⟩
      go_simp
      refine hK _ _ ?_
      clear hK K
      refine anyP_leaf (bel_trans (bel_drew _) hb5) (by kernel_rfl) ?_
      simp only [List.drop_succ_cons, List.drop_zero]
      have hb5' := bel_trans (bel_drew wr) hb5
      have hA5 := HAR.out.below hb5'
      have hg5 := (hb5'.block g (Array.getElem?_eq_some_iff.1 HBR.out).1).trans HBR.out
      have hbW5 := HB.out.trans (hb5'.mono HB.out.size)
      have hv5 := HRD.out.below hbW5
      have hvo5 : OwnsOut w5 (.slice va q vc) (fun k => col k = cP p) := HVO.out.kept (fun k hk => hbW5.block k ((HH.out.part p).lt k hk))
      have hput := HPL.out w5 hA5
      unfold ptr at hput
      have HP5 := Lib.hid hput
      have HA5 := Lib.hid hA5
      have HG5 := Lib.hid hg5
      have HV5 := Lib.hid hv5
      have HVO5 := Lib.hid hvo5
      clear hb5 hb5' hA5 hg5 hbW5 hv5 hvo5 hput HROW
      go_wp2_with fail
      refine HP5.out.mono ?_
      rintro e w6 ⟨rfl, col6, h6, hz6, hp6, ho6⟩
      have hgl5 := (Array.getElem?_eq_some_iff.1 HG5.out).1
      have hg6 := (ho6.block g hgl5 (fun e => e.elim (fun e => by rw [HCB.out] at e; cases e) (fun e => (cG_ne p).1 (e.symm.trans HCB.out)))).trans HG5.out
      have hkeep : ∀ k, col k = cP p → w6.heap[k]? = w5.heap[k]? := fun k hk => ho6.block k ((HA5.out.part p).lt k hk) (fun e => e.elim (fun e => (cP_ne p).2.1 (hk.symm.trans e)) (fun e => (cP_ne p).2.2.2 p (hk.symm.trans e)))
      have hv6 : Reads w6 (.slice va q vc) r.l.length (outCells r.l) := by
        have h1 := HV5.out
        rw [HMM.out] at h1 ⊢
        exact h1.ownKept ho6.size (fun k hk => hkeep k (HVO5.out k hk).1)
      have hvo6 : OwnsOut w6 (.slice va q vc) (fun k => col6 k = cP p) := (HVO5.out.kept hkeep).mono (fun k hk => hp6 k p hk)
      have hc6 : col6 g = 0 := hz6 g hgl5 HCB.out
      have H6 := Lib.hid h6
      have HV6 := Lib.hid hv6
      have HVO6 := Lib.hid hvo6
      have HC6 := Lib.hid hc6
      by_cases hE : E = 0
      · subst hE
        obtain ⟨lv6, qs6, hc, hr, hqs, hlo, hqr⟩ := (h6.part p).ex
        rw [show T.r p = S.r p by rw [HTR.out]] at hr hqs
        obtain ⟨R, hR⟩ : ∃ R, (S.r p).length = R := ⟨_, rfl⟩
        obtain ⟨la, lc, rfl⟩ := hr.reads.shape
        have hRn := HNN.out
        have c1 := cells_at hc 1 _ rfl
        have cf := cells_free hc 1
        have d0 := cells_at hg6 0 _ rfl
        have d1 := cells_at hg6 1 _ rfl
        have d2 := cells_at hg6 2 _ rfl
        simp only [List.getElem_toArray, List.getElem_cons_zero, List.getElem_cons_succ] at c1 d0 d1 d2
        have hlne : (Value.slice la (S.r p).length lc).ownBlock ≠ some (b p) := fun e => by
          obtain ⟨cur, hcur⟩ := hr.type (b p) e
          exact far hcur hc (by decide) rfl
        have hbl := (Array.getElem?_eq_some_iff.1 hc).1
        have hgl := (Array.getElem?_eq_some_iff.1 hg6).1
        have HC := Lib.hid hc
        have HR6 := Lib.hid hr
        have HQS := Lib.hid hqs
        have HLO := Lib.hid hlo
        have HQR := Lib.hid hqr
        have HRR := Lib.hid hR
        have HLNE := Lib.hid hlne
        have HG6 := Lib.hid hg6
        rw [hR] at c1 HC HR6 HLO HLNE hRn
        clear h6 hz6 hp6 ho6 hg6 hkeep hv6 hvo6 hc6 hgl5 hc hr hqs hlo hqr hR hlne HP5 HA5 HG5 HV5 HVO5
        have HD := Lib.hid (fun (W' : World) (h1 : W'.heap[b p]? = w6.heap[b p]?) (h2 : W'.heap[g]? = w6.heap[g]?) => And.intro ((World.cell?_of_block (a := ⟨b p, 1, none⟩) h1).trans c1) (And.intro ((World.cell?_of_block (a := ⟨g, 0, none⟩) h2).trans d0) (And.intro ((World.cell?_of_block (a := ⟨g, 1, none⟩) h2).trans d1) ((World.cell?_of_block (a := ⟨g, 2, none⟩) h2).trans d2))))
        clear c1 d0 d1 d2 cf
        go_upto_region 9 with fail
        refine wp_region_free [0, 1, 2, 3, 4, 5] 8 (fun W' => W'.heap[b p]? = w6.heap[b p]? ∧ W'.heap[g]? = w6.heap[g]?) (by kernel_rfl) (by kernel_rfl) ?_
        change wpYields _ _ _ _ [_, _, _, _, _, _] _
        iterate 6 (refine yields_step (fun K hK => ?_); apply Exists.intro; apply And.intro; (apply yields_at rfl; rintro W' ⟨hb1, hb2⟩; obtain ⟨z0, z1, z2, z3⟩ := HD.out W' hb1 hb2; go_simp; first | done | rfl); go_simp; refine hK _ ?_; clear hK K)
        refine yields_nil ?_
        refine anyP_one (k := 6) (by kernel_rfl) (by decide) rfl rfl ⟨rfl, rfl⟩ ?_
        refine wpP_step rfl (fun K hK => ?_)
        go_simp
        refine hK _ _ ?_
        clear hK K
        have hnews := heap_alloc_new w6 (.cells #[.int .u8 kz, .int .i64 r.n, .slice va q vc] 142)
        have hbV := bel_trans (bel_alloc w6 (.cells #[.int .u8 kz, .int .i64 r.n, .slice va q vc] 142)) (bel_drew _)
        have hone : ∀ u ∈ [Value.int .u8 kz, .int .i64 r.n, .slice va q vc], u.oneCell' = true := by simp [Value.oneCell']
        refine anyP_one (k := 7) (by kernel_rfl) (by decide) rfl rfl ⟨hbV.block (b p) hbl, hbV.block g hgl⟩ ?_
        refine wpP_step rfl (fun K hK => ?_)
        refine step_append_row rfl _ _ 138 rfl 142 j0 _ 3 40 Try.underlying138 hj0 hy0 hy1 hy2 rfl (by omega) (.slice la R lc) R (oCells qs6) (by rfl) (HR6.out.kept (fun k hk => hbV.block k (HR6.out.lt k hk))) ⟨w6.heap.size, 0, none⟩ 1 1 [.int .u8 kz, .int .i64 r.n, .slice va q vc] rfl rfl (World.news_of_block (cs := #[.int .u8 kz, .int .i64 r.n, .slice va q vc]) (t := 142) (fr := (0, 0)) hnews) hone (by omega) (by unfold maxLen; omega) (by omega) ?_
        intro gg cap w9 hown hgrow hat hltg
        refine hK _ _ ?_
        clear hK K
        have hb9 : w9.heap[b p]? = w6.heap[b p]? := (hgrow.block (b p) (by have := hbV.size; omega) (Ne.symm HLNE.out)).trans (hbV.block (b p) hbl)
        have hgne : some g ≠ (Value.slice la R lc).ownBlock := fun e => by
          have h1 := HLO.out g e.symm
          rw [HC6.out] at h1
          exact (cP_ne p).1 h1.symm
        have hg9 : w9.heap[g]? = w6.heap[g]? := (hgrow.block g (by have := hbV.size; omega) hgne).trans (hbV.block g hgl)
        have hpp : PartAt (w9.setCell ⟨b p, 1, none⟩ (.slice (some ⟨gg, 0, none⟩) (R + 1) cap)) (b p) (l p) (S.r p ++ [r]) (fun k => col6 k = cP p ∨ k = gg) ∧ Only (fun k => col6 k = cP p) w6 (w9.setCell ⟨b p, 1, none⟩ (.slice (some ⟨gg, 0, none⟩) (R + 1) cap)) := by
          have hRR := HRR.out
          subst hRR
          exact part_push (qs := qs6) (v := .slice va q vc) (r := r) (rs := S.r p) (H6.out.part p).mem (H6.out.part p).lt HC.out HR6.out HQS.out HLO.out HQR.out HV6.out HVO6.out hbV hgrow (by rw [show (r.kind.toNat : Int) = kz from HKZ.out]; exact hown) hat hltg
        have hre := H6.out.repart p hpp.2 hpp.1 (fun k hk => by
          rcases hk with hk | rfl
          · exact .inl hk
          · rcases hat with h1 | h1
            · exact .inl (HLO.out _ h1)
            · exact .inr (Nat.le_trans hbV.size h1))
        have HRE := Lib.hid hre
        refine anyP_leaf ⟨hb9, hg9⟩ (by kernel_rfl) ?_
        simp only [List.drop_succ_cons, List.drop_zero]
        have y := hb9.trans HC.out
        have yf := cells_free y 1
        have y1 := cells_at y 1 _ rfl
        simp only [List.getElem_toArray, List.getElem_cons_zero, List.getElem_cons_succ] at y1
        clear hnews hbV hone hown hgrow hat hltg hb9 hgne hg9 hpp hre y
        go_wp2_with fail
        go_ret
        rw [HZ0.out trivial]
        have hre := HRE.out
        rw [HTR.out] at hre
        unfold OSt.row
        rw [HTR.out]
        exact ⟨rfl, hre⟩
      · have hEb : (E == 0) = false := by simpa using hE
        clear h6 hz6 hp6 ho6 hg6 hkeep hv6 hvo6 hc6 hgl5 HP5 HA5 HG5 HV5 HVO5
        go_wp2_with fail
        go_ret
        rw [HZE.out hE]
        exact ⟨rfl, col6, H6.out⟩

end Go.Proofs.Ytllecjhfbojgcaa
