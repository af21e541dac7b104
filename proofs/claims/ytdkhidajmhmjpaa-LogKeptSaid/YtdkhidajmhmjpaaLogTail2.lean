/-
  LogKept from its crash on, walked in a general frame.
-/
import Derived.Test.YtdkhidajmhmjpaaLogTail
import Derived.Deep.RegionLaw
import Derived.BigRegion
namespace Go.Proofs.Ytdkhidajmhmjpaa
open Go.RowKit
set_option maxRecDepth 20000

def sndC : Code → Code
  | .seq _ c => c
  | c => c
def fstC : Code → Code
  | .seq c _ => c
  | c => c
/-- The code of LogKept from its crash on. -/
def keptRest (f : Func) : Code := sndC (sndC (sndC (sndC (sndC (sndC (sndC (sndC (sndC (sndC (f.body.getD .skip))))))))))

theorem lgk_log {w0 w : World} {l d : Nat} {file : Int} {D : Dk.St} {L : Lg.St} {K : Nat → Prop} (h : LgK w0 w l d file D L K) : ∃ G, LogAt w l d file L G := by
  obtain ⟨F, G, h1, h2, -⟩ := h
  exact ⟨G, h2⟩


/-- A slice of a block that stands. -/
theorem reads_block {w w' : World} {a : Option Addr} {n c : Nat} {cs : List Value} (h : Reads w (.slice a n c) n cs) (hs : w.heap.size ≤ w'.heap.size) (hk : ∀ b, (Value.slice a n c).ownBlock = some b → w'.heap[b]? = w.heap[b]?) : Reads w' (.slice a n c) n cs := by
  rcases h with h | ⟨b, o, k, h1, h2, h3, h4, h5⟩
  · exact .inl h
  · refine .inr ⟨b, o, k, h1, h2, h3, by omega, fun i v hv => ?_⟩
    cases h1
    exact (World.cell?_of_block (hk b rfl)).trans (h5 i v hv)
theorem reads_first {w : World} {a : Option Addr} {n c : Nat} {rs : List Lg.Rec} (h : Reads w (.slice a n c) n (recCells rs)) (j : Nat) (hj : j ≤ n) (hl : rs.length = n) (hc : n ≤ c) (hm : c ≤ maxLen) : Reads w (.slice a j c) j (recCells (rs.take j)) := by
  rcases h with ⟨a', k, h1, h2, h3⟩ | ⟨b, o, k, h1, h2, h3, h4, h5⟩
  · cases h1
    have : j = 0 := by omega
    subst this
    exact .inl ⟨_, _, rfl, rfl, by simp [recCells]⟩
  · cases h1
    refine .inr ⟨b, o, _, rfl, by omega, hm, h4, fun i v hv => ?_⟩
    have hlt := (List.getElem?_eq_some_iff.1 hv).1
    rw [← recCells_take, List.getElem?_take_of_lt (by rw [← recCells_take, List.length_take] at hlt; omega)] at hv
    exact h5 i v hv

set_option maxHeartbeats 16000000 in
set_option maxRecDepth 100000 in
theorem kept_tail {t0 t1 t4 t5 t6 t7 t8 t10 t11 t12 t13 t14 t15 t16 t17 t18 t21 t22 t23 t24 t25 t26 t27 t28 t29 t30 t31 t32 t33 t34 t35 t36 t37 t38 t39 t40 t41 t42 t43 t44 t45 t46 t47 t48 t49 t50 t51 t52 t53 t54 t55 t56 t57 t58 t59 t60 t61 t62 t63 t64 t65 t66 t67 t68 t69 t70 t71 t72 t73 t74 t75 t76 t77 t78 t79 t80 t81 t82 t83 t84 t85 t86 t87 t88 t89 t90 t91 t92 t93 t94 t95 t96 t97 t98 t99 t100 t101 t102 t103 t104 t105 t106 t107 t108 t109 t110 t111 t112 t113 t114 t115 t116 t117 t118 t119 t120 t121 t122 t123 t124 t125 t126 t127 t128 t129 t130 t131 t132 t133 t134 t135 t136 t137 t138 t139 t140 t141 t142 t143 t144 t145 t146 t147 t148 t149 t150 t151 t152 t153 t154 t155 t156 t157 t158 t159 t160 t161 t162 t163 t164 t165 t166 t167 t168 t169 t170 t171 : Value} (w0 w : World) (d : Nat) (D : Dk.St) (all : List Lg.Rec) (sure : Nat) (o : Option Nat) (chg byt : Int) (aa : Option Addr) (N ac lo : Nat)
    (hLv : LvK w0 w d D (fun b => (Value.slice aa N ac).ownBlock = some b)) (hK : Lg.Kept D all sure o) (hb : (Lg.bytesOf all).length ≤ 1000000) (hr : Reads w (.slice aa N ac) N (recCells all)) (hN : all.length = N) (hN1 : N ≤ 101) (hca : N ≤ ac) (hcm : ac ≤ maxLen) (hz : aa = none → ac = 0) (hlo : lo = min sure (o.getD N)) :
    (fstC (keptRest Try.f6)).wp Try.prog (Exit.then ((sndC (keptRest Try.f6)).wp Try.prog (bodyPost Try.prog Try.f6 (fun e w' => e = .returned (.bool true) ∧ Below w0.heap.size w0 w'))) (bodyPost Try.prog Try.f6 (fun e w' => e = .returned (.bool true) ∧ Below w0.heap.size w0 w'))) { tmps := #[t0, t1, .int .i64 chg, .int .i64 byt, t4, t5, t6, t7, t8, .pointer (some ⟨d, 0, none⟩), t10, t11, t12, t13, t14, t15, t16, t17, t18, .slice aa N ac, .int .i64 (lo : Int), t21, t22, t23, t24, t25, t26, t27, t28, t29, t30, t31, t32, t33, t34, t35, t36, t37, t38, t39, t40, t41, t42, t43, t44, t45, t46, t47, t48, t49, t50, t51, t52, t53, t54, t55, t56, t57, t58, t59, t60, t61, t62, t63, t64, t65, t66, t67, t68, t69, t70, t71, t72, t73, t74, t75, t76, t77, t78, t79, t80, t81, t82, t83, t84, t85, t86, t87, t88, t89, t90, t91, t92, t93, t94, t95, t96, t97, t98, t99, t100, t101, t102, t103, t104, t105, t106, t107, t108, t109, t110, t111, t112, t113, t114, t115, t116, t117, t118, t119, t120, t121, t122, t123, t124, t125, t126, t127, t128, t129, t130, t131, t132, t133, t134, t135, t136, t137, t138, t139, t140, t141, t142, t143, t144, t145, t146, t147, t148, t149, t150, t151, t152, t153, t154, t155, t156, t157, t158, t159, t160, t161, t162, t163, t164, t165, t166, t167, t168, t169, t170, t171], defers := [] } w := by
  obtain ⟨j0, tt0, hT0, hlo0, hjN0⟩ := torn_crash hK hLv.live.ok hb chg byt
  have hcr := lvk_crash hLv chg byt
  unfold maxLen at hcm
  rw [hN, ← hlo] at hlo0
  rw [hN] at hjN0
  have HT0 := Lib.hid hT0
  have HR := Lib.hid hr
  have HN := Lib.hid hN
  have hal : ∀ k, k ≤ N → (all.take k).length = k := fun k hk => by rw [List.length_take]; omega
  have htk : all.take N = all := by rw [← hN, List.take_length]
  unfold ptr at hcr
  have HCR := Lib.hid hcr
  clear hLv hK hb hr hT0 hcr hlo
  unfold keptRest
  simp only [sndC, fstC, Try.f6, Option.getD_some]
  cases aa with
  | none =>
    have hac := hz rfl
    subst hac
    have hN0 : N = 0 := by omega
    subst hN0
    clear hz
    go_wp2_with fail
    refine HCR.out.mono ?_
    rintro e w1 ⟨rfl, h1, hk1, hs1⟩
    have H1 := Lib.hid h1
    have hr1 := reads_block HR.out hs1 hk1
    rw [← htk] at hr1
    have HR1 := Lib.hid hr1
    clear h1 hk1 hs1 hr1
    go_wp2_with fail
    go_loopw [19, 20, 125] (fun was least i wr => ∃ (q : Nat) (D : Dk.St) (N' lo' js : Nat) (t : List UInt8), q ≤ 2 ∧ i = .int .i64 (q : Int) ∧ was = .slice none N' 0 ∧ least = .int .i64 (lo' : Int) ∧ Hid (LvK w0 wr d D (fun b => (Value.slice none 0 0).ownBlock = some b)) ∧ Hid (Reads wr (.slice none N' 0) N' (recCells (all.take N'))) ∧ Hid (Torn D all js t) ∧ lo' ≤ js ∧ js ≤ N' ∧ N' ≤ 0) (fun _ _ i _ => 2 - (intOf i).toNat)
    case atStart => exact ⟨0, _, 0, lo, j0, tt0, by omega, rfl, rfl, rfl, H1, HR1, HT0, hlo0, hjN0, Nat.le_refl _⟩
    case round =>
      obtain ⟨q, D2, N', lo', js, t, hq, rfl, rfl, rfl, HL, HRA0, HT, hlj, hjN', hN'0⟩ := hrel
      by_cases hlt : q < 2
      · have hqk : (q : Int) < 2 := by omega
        have hop := lvk_open HL.out HT.out
        unfold ptr at hop
        go_wp2_with fail
        refine hop.mono ?_
        clear hop
        rintro e w5 ⟨l, rfl, h5, hk5, hs5⟩
        have hljs : (all.take js).length = js := by rw [List.length_take]; omega
        have HJS := Lib.hid hljs
        have hr5 := reads_block HRA0.out hs5 hk5
        obtain ⟨G, hLG⟩ := lgk_log h5
        have htx := texts_any w5 l d 2 _ G hLG (by show (all.take js).length ≤ 1000000; omega)
        have hll := lg_len h5.live
        unfold ptr at htx hll
        rw [show (Lg.St.mk (all.take js) (all.take js).length).rs = all.take js from rfl, hljs] at htx hll
        have HTX := Lib.hid htx
        have HLL := Lib.hid hll
        have H5 := Lib.hid h5
        have HR5 := Lib.hid hr5
        have hc1 : decide (js < lo') = false := by simp; omega
        have hc2 : decide (N' < js) = false := by simp; omega
        have hc3 : ¬ js < lo' := by omega
        have hc4 : ¬ N' < js := by omega
        clear htx hll hLG h5 hk5 hs5 hr5 hljs
        go_wp2_with fail
        refine HLL.out.mono ?_
        rintro e w6 ⟨rfl, rfl⟩
        go_wp2_with fail
        refine HLL.out.mono ?_
        rintro e w6 ⟨rfl, rfl⟩
        go_wp2_with fail
        refine HTX.out.mono ?_
        rintro e w7 ⟨got, rfl, hown, hb7⟩
        have hrg := Reads.own hown
        obtain ⟨ga, gc, rfl⟩ := hrg.shape
        have HRG := Lib.hid hrg
        have HRA := Lib.hid (HR5.out.below hb7)
        have HB7 := Lib.hid (Below.refl w7.heap.size w7)
        have HLK := Lib.hid ((H5.out.grow hb7).less (K' := fun b => (Value.slice none 0 0).ownBlock = some b) (fun b hb => .inl hb))
        clear hown hrg hb7
        go_wp2_with fail
        go_loopw [150] (fun i wz => ∃ p : Nat, p ≤ js ∧ i = .int .i64 (p : Int) ∧ Hid (Below w7.heap.size w7 wz)) (fun i _ => js - (intOf i).toNat)
        case atStart => exact ⟨0, Nat.zero_le _, rfl, Lib.hid (Below.refl _ _)⟩
        case round =>
          obtain ⟨p, hp, rfl, HBZ⟩ := hrel
          have hpe : p = js := by omega
          subst hpe
          have hp0 : p = 0 := by omega
          subst hp0
          go_wp2_with fail
          have hb8 := HB7.out.trans (HBZ.out.mono HB7.out.size)
          have HK8 := Lib.hid ((HLK.out.grow hb8).less (K' := fun b => (Value.slice none 0 0).ownBlock = some b) (fun b hb => .inl hb))
          have hll8 := fun W (hb : Below wr.heap.size wr W) => lg_len (HK8.out.live.below hb)
          unfold ptr at hll8
          simp only [HJS.out] at hll8
          have HLL8 := Lib.hid hll8
          clear hll8 hb8
          go_quiet ((go_at_call 13; exact Calls.quiet_of_same ((HLL8.out _ (bel_drewN _ _)).mono (fun e w' h => ⟨h.1, h.2.symm⟩))))
          obtain ⟨U, hU⟩ : ∃ U, wr.drewN nq = U := ⟨_, rfl⟩
          rw [hU]
          have hbU : Below wr.heap.size wr U := by rw [← hU]; exact bel_drewN _ _
          have HBU := Lib.hid hbU
          clear hU hbU
          have hcr := lvk_crash (HK8.out.disk.below HBU.out) 0 0
          unfold ptr at hcr
          go_wp2_with fail
          refine hcr.mono ?_
          clear hcr
          rintro e w9 ⟨rfl, h9, hk9, hs9⟩
          have hr9 := reads_block ((HRA.out.below HBZ.out).below HBU.out) hs9 hk9
          have hl2 : (all.take N').length = N' := by rw [List.length_take]; omega
          have hr9' := reads_first hr9 0 (by omega) hl2 (by omega) (by unfold maxLen; omega)
          rw [List.take_take, Nat.min_eq_left (by omega)] at hr9'
          have HR9 := Lib.hid hr9'
          have H9 := Lib.hid h9
          have HT9 := Lib.hid HT.out.opened
          clear hr9 hr9' h9 hk9 hs9 hl2
          go_wp2_with fail
          go_roundw
          case rel => exact ⟨q + 1, _, 0, 0, 0, [], by omega, by go_num, rfl, rfl, H9, HR9, HT9, Nat.le_refl _, Nat.le_refl _, by omega⟩
          case measure => simp [intOf]; omega
      · have hqe : q = 2 := by omega
        subst hqe
        clear hlt
        go_wp2_with fail
        refine (lworks_any _).mono ?_
        rintro e w9 ⟨rfl, hb⟩
        have H := Lib.hid (HL.out.live.below hb)
        clear hb
        go_wp2_with fail
        go_ret
        exact ⟨rfl, H.out.bel⟩
  | some ad =>
    clear hz
    go_wp2_with fail
    refine HCR.out.mono ?_
    rintro e w1 ⟨rfl, h1, hk1, hs1⟩
    have H1 := Lib.hid h1
    have hr1 := reads_block HR.out hs1 hk1
    rw [← htk] at hr1
    have HR1 := Lib.hid hr1
    clear h1 hk1 hs1 hr1
    go_wp2_with fail
    go_loopw [19, 20, 125] (fun was least i wr => ∃ (q : Nat) (D : Dk.St) (N' lo' js : Nat) (t : List UInt8), q ≤ 2 ∧ i = .int .i64 (q : Int) ∧ was = .slice (some ad) N' ac ∧ least = .int .i64 (lo' : Int) ∧ Hid (LvK w0 wr d D (fun b => (Value.slice (some ad) N ac).ownBlock = some b)) ∧ Hid (Reads wr (.slice (some ad) N' ac) N' (recCells (all.take N'))) ∧ Hid (Torn D all js t) ∧ lo' ≤ js ∧ js ≤ N' ∧ N' ≤ N) (fun _ _ i _ => 2 - (intOf i).toNat)
    case atStart => exact ⟨0, _, N, lo, j0, tt0, by omega, rfl, rfl, rfl, H1, HR1, HT0, hlo0, hjN0, Nat.le_refl _⟩
    case round =>
      obtain ⟨q, D2, N', lo', js, t, hq, rfl, rfl, rfl, HL, HRA0, HT, hlj, hjN', hN'N⟩ := hrel
      by_cases hlt : q < 2
      · have hqk : (q : Int) < 2 := by omega
        have hop := lvk_open HL.out HT.out
        unfold ptr at hop
        go_wp2_with fail
        refine hop.mono ?_
        clear hop
        rintro e w5 ⟨l, rfl, h5, hk5, hs5⟩
        have hljs : (all.take js).length = js := by rw [List.length_take]; omega
        have HJS := Lib.hid hljs
        have hr5 := reads_block HRA0.out hs5 hk5
        obtain ⟨G, hLG⟩ := lgk_log h5
        have htx := texts_any w5 l d 2 _ G hLG (by show (all.take js).length ≤ 1000000; omega)
        have hll := lg_len h5.live
        unfold ptr at htx hll
        rw [show (Lg.St.mk (all.take js) (all.take js).length).rs = all.take js from rfl, hljs] at htx hll
        have HTX := Lib.hid htx
        have HLL := Lib.hid hll
        have H5 := Lib.hid h5
        have HR5 := Lib.hid hr5
        have hc1 : decide (js < lo') = false := by simp; omega
        have hc2 : decide (N' < js) = false := by simp; omega
        have hc3 : ¬ js < lo' := by omega
        have hc4 : ¬ N' < js := by omega
        clear htx hll hLG h5 hk5 hs5 hr5 hljs
        go_wp2_with fail
        refine HLL.out.mono ?_
        rintro e w6 ⟨rfl, rfl⟩
        go_wp2_with fail
        refine HLL.out.mono ?_
        rintro e w6 ⟨rfl, rfl⟩
        go_wp2_with fail
        refine HTX.out.mono ?_
        rintro e w7 ⟨got, rfl, hown, hb7⟩
        have hrg := Reads.own hown
        obtain ⟨ga, gc, rfl⟩ := hrg.shape
        have HRG := Lib.hid hrg
        have HRA := Lib.hid (HR5.out.below hb7)
        have HB7 := Lib.hid (Below.refl w7.heap.size w7)
        have HLK := Lib.hid ((H5.out.grow hb7).less (K' := fun b => (Value.slice (some ad) N ac).ownBlock = some b) (fun b hb => .inl hb))
        clear hown hrg hb7
        go_wp2_with fail
        go_loopw [150] (fun i wz => ∃ p : Nat, p ≤ js ∧ i = .int .i64 (p : Int) ∧ Hid (Below w7.heap.size w7 wz)) (fun i _ => js - (intOf i).toNat)
        case atStart => exact ⟨0, Nat.zero_le _, rfl, Lib.hid (Below.refl _ _)⟩
        case round =>
          obtain ⟨p, hp, rfl, HBZ⟩ := hrel
          by_cases hlt2 : p < js
          · obtain ⟨r, hr⟩ : ∃ r, (all.take js)[p]? = some r := ⟨_, List.getElem?_eq_getElem (show p < (all.take js).length by rw [List.length_take]; omega)⟩
            have hr2 : (all.take N')[p]? = some r := by rw [List.getElem?_take_of_lt (by omega)]; rw [List.getElem?_take_of_lt hlt2] at hr; exact hr
            have hpk : (p : Int) < (js : Int) := by omega
            have hpn : (p : Int) < (N' : Int) := by omega
            have hrg := HRG.out
            have hra := HRA.out
            have hl1 : (all.take js).length = js := by rw [List.length_take]; omega
            have hl2 : (all.take N').length = N' := by rw [List.length_take]; omega
            obtain ⟨gb, go, hge, hgl, g0, g1, g2, g3⟩ := reads_rec (by rw [hl1]; exact hrg) p r hr
            obtain ⟨ab, ao, hae, hal, a0, a1, a2, a3⟩ := reads_rec (by rw [hl2]; exact hra) p r hr2
            obtain ⟨rk, rt⟩ := r
            have gz : ∀ j v, w7.cell? ⟨gb, j, none⟩ = some v → wr.cell? ⟨gb, j, none⟩ = some v := fun j v h => (World.cell?_of_block (HBZ.out.block gb hgl)).trans h
            have az : ∀ j v, w7.cell? ⟨ab, j, none⟩ = some v → wr.cell? ⟨ab, j, none⟩ = some v := fun j v h => (World.cell?_of_block (HBZ.out.block ab hal)).trans h
            have g0 := gz _ _ g0
            have g1 := gz _ _ g1
            have g2 := gz _ _ g2
            have g3 := gz _ _ g3
            have nb : ∀ j v, w7.cell? ⟨ab, j, none⟩ = some v → (wr.alloc (.cells #[.int .u8 (rk.toNat : Int), .string rt, .bool false, .int .i64 0] 33)).cell? ⟨ab, j, none⟩ = some v := fun j v h => (World.cell?_of_block (Below.heap_alloc _ _ ab (by have := HBZ.out.size; omega))).trans (az j v h)
            have a0 := nb _ _ a0
            have a1 := nb _ _ a1
            have a2 := nb _ _ a2
            have a3 := nb _ _ a3
            have hx := heap_alloc_new wr (.cells #[.int .u8 (rk.toNat : Int), .string rt, .bool false, .int .i64 0] 33)
            have x0 := cells_at hx 0 _ rfl
            have x1 := cells_at hx 1 _ rfl
            have x2 := cells_at hx 2 _ rfl
            have x3 := cells_at hx 3 _ rfl
            simp only [List.getElem_toArray, List.getElem_cons_zero, List.getElem_cons_succ] at x0 x1 x2 x3
            cases hge; cases hae
            clear hrg hra gz az nb hr hr2 hx hl1 hl2
            go_wp2_with fail
            go_quiet (fail)
            go_wp2_with fail
            go_roundw
            case rel => exact ⟨p + 1, by omega, by go_num, Lib.hid (bel_trans HBZ.out (bel_trans (bel_alloc _ _) (bel_drewN _ _)))⟩
            case measure => simp [intOf]; omega
          · have hpe : p = js := by omega
            subst hpe
            have hqq : ¬ (p : Int) < (p : Int) := by omega
            clear hlt2
            go_wp2_with fail
            have hb8 := HB7.out.trans (HBZ.out.mono HB7.out.size)
            have HK8 := Lib.hid ((HLK.out.grow hb8).less (K' := fun b => (Value.slice (some ad) N ac).ownBlock = some b) (fun b hb => .inl hb))
            have hll8 := fun W (hb : Below wr.heap.size wr W) => lg_len (HK8.out.live.below hb)
            unfold ptr at hll8
            simp only [HJS.out] at hll8
            have HLL8 := Lib.hid hll8
            clear hll8 hb8
            go_quiet ((go_at_call 13; exact Calls.quiet_of_same ((HLL8.out _ (bel_drewN _ _)).mono (fun e w' h => ⟨h.1, h.2.symm⟩))))
            obtain ⟨U, hU⟩ : ∃ U, wr.drewN nq = U := ⟨_, rfl⟩
            rw [hU]
            have hbU : Below wr.heap.size wr U := by rw [← hU]; exact bel_drewN _ _
            have HBU := Lib.hid hbU
            clear hU hbU
            have hcr := lvk_crash (HK8.out.disk.below HBU.out) 0 0
            unfold ptr at hcr
            go_wp2_with fail
            refine hcr.mono ?_
            clear hcr
            rintro e w9 ⟨rfl, h9, hk9, hs9⟩
            have hr9 := reads_block ((HRA.out.below HBZ.out).below HBU.out) hs9 hk9
            have hl2 : (all.take N').length = N' := by rw [List.length_take]; omega
            have hr9' := reads_first hr9 p (by omega) hl2 (by omega) (by unfold maxLen; omega)
            rw [List.take_take, Nat.min_eq_left (by omega)] at hr9'
            have HR9 := Lib.hid hr9'
            have H9 := Lib.hid h9
            have HT9 := Lib.hid HT.out.opened
            clear hr9 hr9' h9 hk9 hs9 hl2
            go_wp2_with fail
            go_roundw
            case rel => exact ⟨q + 1, _, p, p, p, [], by omega, by go_num, rfl, rfl, H9, HR9, HT9, Nat.le_refl _, Nat.le_refl _, by omega⟩
            case measure => simp [intOf]; omega
      · have hqe : q = 2 := by omega
        subst hqe
        clear hlt
        go_wp2_with fail
        refine (lworks_any _).mono ?_
        rintro e w9 ⟨rfl, hb⟩
        have H := Lib.hid (HL.out.live.below hb)
        clear hb
        go_wp2_with fail
        go_ret
        exact ⟨rfl, H.out.bel⟩
end Go.Proofs.Ytdkhidajmhmjpaa
