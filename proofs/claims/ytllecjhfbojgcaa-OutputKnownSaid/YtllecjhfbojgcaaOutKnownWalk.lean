/-
  The walk through OutputKnown.
-/
import Derived.Test.YtllecjhfbojgcaaOutWorks
namespace Go.Proofs.Ytllecjhfbojgcaa
open Go.RowKit
set_option maxRecDepth 20000

def okl : List OutX := [⟨6, 1⟩]
def ok1 : OSt := (ow0.tell true 2 okl).2
def ok2 : OSt := (ok1.mark 1).2
def ok3 : OSt := (ok2.cut 1).2
theorem ok_e1 : (ow0.tell true 2 okl).1 = 0 := by kernel_rfl
theorem ok_t1 : lastO (ok1.r true) 1 = 2 := by kernel_rfl
theorem ok_e2 : (ok1.mark 1).1 = 5 := by kernel_rfl
theorem ok_e3 : (ok2.cut 1).1 = 0 := by kernel_rfl
theorem ok_t3 : lastO (ok3.r true) 1 = 0 := by kernel_rfl
theorem ok_m : ok2.D.loose.length ≤ 999999999 := of_decide_eq_true (by kernel_rfl)
theorem ok_n : ∀ p, (ok2.r p).length ≤ 1000000000 := fun p => by cases p <;> exact of_decide_eq_true (by kernel_rfl)
theorem ok_L : ∀ p, (ok2.L p).rs.length = (ok2.r p).length := fun p => by cases p <;> kernel_rfl

set_option maxHeartbeats 8000000 in
theorem outputKnown_walk (w : World) : Calls Try.prog 10 #[] w fun e w' => e = .returned (.bool true) ∧ Below w.heap.size w w' := by
  have HE := Lib.hid (And.intro ok_e1 (And.intro ok_t1 (And.intro ok_e2 (And.intro ok_e3 (And.intro ok_t3 (And.intro ok_m (And.intro ok_n ok_L)))))))
  have hf0 : OFit 0 ow0 := open_fit _ rfl
  have hf1 := hf0.tell true 2 okl
  have HF := Lib.hid (And.intro hf0 hf1)
  clear hf0 hf1
  go_enter Try.func10, Try.ntmps10
  go_wp2_with fail
  refine (live_new 1000 w (by decide)).mono ?_
  rintro e w1 ⟨rfl, h⟩
  have H := Lib.hid (show Live w w1 w.heap.size (Dk.fresh 1000) from h)
  clear h
  unfold ptr
  go_wp2_with fail
  refine (oopen_fresh (Fr.all w) w1 w.heap.size 1000 H.out.frame).mono ?_
  rintro e w2 ⟨o, rfl, h⟩
  have H2 := Lib.hid h
  clear h
  unfold ptr
  go_wp2_with fail
  refine (oworks_any _).mono ?_
  rintro e w3 ⟨rfl, hb3⟩
  have h := H2.out.below hb3
  have hb := bel_alloc w3 (.cells #[.int .i64 6, .int .i64 1] 84)
  have hk := (h.keep.grow hb).less (K' := fun k => k = w3.heap.size) (fun k hk => .inr (by rw [hk]; simp))
  obtain ⟨f, hfK, hfw, hl, hback⟩ := hk.callK
  have hrd : Reads f.w (.slice (some ⟨w3.heap.size, 0, none⟩) 1 1) okl.length (outCells okl) := by
    rw [hfw]
    exact Reads.lit w3 #[.int .i64 6, .int .i64 1] 84 1 _ rfl (by unfold maxLen; decide)
  have hfr : ∀ X, Since f X → Reads X (.slice (some ⟨w3.heap.size, 0, none⟩) 1 1) okl.length (outCells okl) := fun X hX => hrd.ownKept hX.size (fun g hg => by
    simp only [Value.ownBlock, Option.some.injEq] at hg
    exact hX.block g (hfK g (.inr hg.symm)))
  have HFR := Lib.hid hfr
  have HFK := Lib.hid hfK
  have HL := Lib.hid (show OutLive f _ o w.heap.size ow0 from hl)
  have HBK := Lib.hid hback
  clear h hb hk hfK hfw hl hrd hfr hback hb3
  obtain ⟨W, hW⟩ : ∃ W, w3.alloc (.cells #[.int .i64 6, .int .i64 1] 84) = W := ⟨_, rfl⟩
  rw [hW] at HL
  have HW := Lib.hid hW
  obtain ⟨g, hgg⟩ : ∃ g, w3.heap.size = g := ⟨_, rfl⟩
  have HGG := Lib.hid hgg
  rw [hgg] at HFR HFK HBK
  clear hW hgg
  go_wp2_with fail
  rw [HW.out, HGG.out]
  refine (otell_any HL.out HF.out.1 (by omega) true 2 (by unfold Cl.In64; omega) _ okl (HFR.out W HL.out.old) (fun k hk => HFK.out k (.inr (by simpa [Value.ownBlock] using hk.symm))) (fun x hx => by simp [okl] at hx; subst hx; unfold Cl.In64; simp) (by decide)).mono ?_
  rintro e w4 ⟨rfl, h4⟩
  rw [HE.out.1]
  have H4 := Lib.hid (show OutLive f w4 o w.heap.size ok1 from h4)
  clear h4
  go_wp2_with fail
  have ht := told_any H4.out true
  rw [HE.out.2.1] at ht
  refine ht.mono ?_
  clear ht
  rintro e w5 ⟨rfl, hb5⟩
  have H5 := Lib.hid (H4.out.below hb5)
  clear hb5
  go_wp2_with fail
  refine (omark_any H5.out HF.out.2 (by decide) 1 (by unfold Cl.In64; omega)).mono ?_
  rintro e w6 ⟨rfl, h6⟩
  rw [HE.out.2.2.1]
  have H6 := Lib.hid (show OutLive f w6 o w.heap.size ok2 from h6)
  clear h6
  go_wp2_with fail
  refine (ocut_any H6.out HE.out.2.2.2.2.2.1 HE.out.2.2.2.2.2.2.1 HE.out.2.2.2.2.2.2.2 1).mono ?_
  rintro e w7 ⟨rfl, h7⟩
  rw [HE.out.2.2.2.1]
  have H7 := Lib.hid (show OutLive f w7 o w.heap.size ok3 from h7)
  clear h7
  go_wp2_with fail
  have ht := told_any H7.out true
  rw [HE.out.2.2.2.2.1] at ht
  refine ht.mono ?_
  clear ht
  rintro e w8 ⟨rfl, hb8⟩
  have H8 := Lib.hid (H7.out.below hb8)
  clear hb8
  go_wp2_with fail
  refine (oopen_nil _).mono ?_
  rintro e w9 ⟨rfl, hb9⟩
  have H9 := Lib.hid (H8.out.below hb9)
  clear hb9
  go_wp2_with fail
  refine (otell_nil _ _ _ _).mono ?_
  rintro e w10 ⟨rfl, rfl⟩
  go_wp2_with fail
  refine (osync_nil _).mono ?_
  rintro e w10 ⟨rfl, rfl⟩
  go_wp2_with fail
  refine (omark_nil _ _).mono ?_
  rintro e w10 ⟨rfl, hb10⟩
  have H10 := Lib.hid (H9.out.below hb10)
  clear hb10
  go_wp2_with fail
  refine (ocut_nil _ _).mono ?_
  rintro e w11 ⟨rfl, hb11⟩
  have H11 := Lib.hid (H10.out.below hb11)
  clear hb11
  go_wp2_with fail
  refine (marked_nil _ _).mono ?_
  rintro e w12 ⟨rfl, rfl⟩
  go_wp2_with fail
  refine (told_nil _ _).mono ?_
  rintro e w12 ⟨rfl, rfl⟩
  go_wp2_with fail
  refine (counts_nil _ _).mono ?_
  rintro e w12 ⟨rfl, rfl⟩
  go_wp2_with fail
  refine (otell_no o 2 9 (by omega) _ _).mono ?_
  rintro e w12 ⟨rfl, rfl⟩
  have H12 := Lib.hid ((HBK.out w11 o ok3 H11.out).old.bel)
  go_wp2_with fail
  go_ret
  exact ⟨rfl, H12.out⟩

end Go.Proofs.Ytllecjhfbojgcaa
