/-
  What 'works' of the output's laws goes through.
-/
import Derived.Test.YtllecjhfbojgcaaOutOpen2
import Derived.Test.YtllecjhfbojgcaaOutCut
import Derived.Test.YtllecjhfbojgcaaOutCounts
namespace Go.Proofs.Ytllecjhfbojgcaa
open Go.RowKit
set_option maxRecDepth 20000

theorem OFit.tells (p : Bool) (n : Int) : ∀ (f j : Nat) (S : OSt) (l : List OutX), OFit j S → OFit (j + f) (OSt.tells p n f S l).2 := by
  intro f
  induction f with
  | zero => intro j S l h; exact h
  | succ f ih =>
    intro j S l h
    have h1 := h.put p ⟨1, n, l.take 1000⟩ (show (l.take 1000).length ≤ 1000 by rw [List.length_take]; omega)
    rw [tells_step]
    split
    · exact h1.mono (by omega)
    · split
      · exact h1.mono (by omega)
      · have := ih (j + 1) _ (l.drop 1000) h1
        exact this.mono (by omega)
theorem OFit.tell {j : Nat} {S : OSt} (h : OFit j S) (p : Bool) (n : Int) (l : List OutX) : OFit (j + (l.length / 1000 + 1)) (S.tell p n l).2 := by
  unfold OSt.tell
  split
  · exact h.mono (by omega)
  · exact OFit.tells p n _ j S l h

/-- The frame that has these blocks too: what it says, and the way back. -/
theorem OutK.callK {fr : Fr} {w : World} {o d : Nat} {S : OSt} {K : Nat → Prop} (h : OutK fr w o d S K) :
    ∃ f : Fr, (∀ k, fr.K k ∨ K k → f.K k) ∧ f.w = w ∧ OutLive f w o d S ∧ ∀ w' o' S', OutLive f w' o' d S' → OutK fr w' o' d S' K := by
  obtain ⟨b, l, col, h, h2⟩ := h
  exact ⟨fr.more h.old K (fun k hk => (h2 k hk).2), fun k hk => hk, rfl, ⟨b, l, col, Since.refl _ _ _, fun k hk => hk.elim (h.keep k) (fun e => (h2 k e).1), h.lt, h.disk, h.log, h.part, h.cell, h.co⟩, fun w' o' S' h' => h'.back.1⟩

theorem opens_fresh (room : Nat) (f : Nat) (hf : f < 16) : Opens (Dk.fresh room) f (Dk.fresh room) [] := by
  have h1 : Dk.at' (Dk.fresh room).now f = ByteArray.empty := by
    show Dk.at' Dk.none' f = _
    unfold Dk.at' Dk.none'
    rw [List.getD_eq_getElem?_getD, List.getElem?_replicate, if_pos hf]
    rfl
  have hF : Lg.Free (Dk.fresh room) := ⟨rfl, rfl⟩
  have hp : Lg.parse (Dk.at' (Dk.fresh room).now f) = [] := by rw [h1]; kernel_rfl
  have h := Opens.free (D := Dk.fresh room) hF f hf [] [] (by rw [h1]; rfl) hp (by rw [h1]; decide) (Nat.zero_le _)
  have ho : Lg.opened (Dk.fresh room) f = Dk.fresh room := by
    unfold Lg.opened
    rw [hF.read f hf, hp, h1]
    rfl
  rw [ho] at h
  exact h

theorem oopen_fresh (fr : Fr) (w : World) (d : Nat) (room : Nat) (hL : LiveF fr w d (Dk.fresh room)) :
    Calls Try.prog 34 #[ptr d 0] w fun e w' => ∃ o, e = .returned (.tuple #[ptr o 0, .int .i64 0]) ∧ OutLive fr w' o d (openSt (Dk.fresh room) (fun _ => []) 2 0) :=
  oopen_recs fr w d _ _ _ hL (fun _ => []) (fun _ => ⟨fun r hr => (by cases hr), fun k r hr => (by simp at hr), Nat.zero_le _⟩) (opens_fresh room 2 (by decide)) (opens_fresh room 3 (by decide))

def owl : List OutX := [⟨5, 2⟩]
def ow0 : OSt := openSt (Dk.fresh 1000) (fun _ => []) 2 0
def ow1 : OSt := (ow0.tell false 1 owl).2
def ow2 : OSt := (ow1.tell false 1 []).2
def ow3 : OSt := (ow2.mark 1).2
theorem ow_e1 : (ow0.tell false 1 owl).1 = 0 := by kernel_rfl
theorem ow_e2 : (ow1.tell false 1 []).1 = 2 := by kernel_rfl
theorem ow_e3 : (ow2.mark 1).1 = 0 := by kernel_rfl
theorem ow_c2 : countsO (ow2.r false) = [] := by kernel_rfl
theorem ow_c3 : countsO (ow3.r false) = owl := by kernel_rfl
theorem ow_f2 : ((ow2.r false).flatMap (·.l)).length ≤ 1000000000 := of_decide_eq_true (by kernel_rfl)
theorem ow_f3 : ((ow3.r false).flatMap (·.l)).length ≤ 1000000000 := of_decide_eq_true (by kernel_rfl)
theorem open_fit (D : Dk.St) (hD : D.loose = []) : OFit 0 (openSt D (fun _ => []) 2 0) := by
  refine ⟨by show D.loose.length ≤ 0; rw [hD]; exact Nat.le_refl _, fun p => ?_, fun p => ?_⟩
  · cases p <;> exact Nat.zero_le _
  · show (partly (fun _ => []) 2 0 p).length ≤ 0
    rw [partly_end]
    exact Nat.le_refl _

set_option maxHeartbeats 4000000 in
theorem oworks_any (w : World) : Calls Try.prog 33 #[] w fun e w' => e = .returned (.bool true) ∧ Below w.heap.size w w' := by
  have HE := Lib.hid (And.intro ow_e1 (And.intro ow_e2 (And.intro ow_e3 (And.intro ow_c2 (And.intro ow_c3 (And.intro ow_f2 ow_f3))))))
  have hf0 : OFit 0 ow0 := open_fit _ rfl
  have hf1 := hf0.tell false 1 owl
  have hf2 := hf1.tell false 1 []
  have HF := Lib.hid (And.intro hf0 (And.intro hf1 hf2))
  clear hf0 hf1 hf2
  go_enter Try.func33, Try.ntmps33
  go_wp2_with fail
  refine (live_new 1000 w (by decide)).mono ?_
  rintro e w1 ⟨rfl, h⟩
  have H := Lib.hid (show Live w w1 w.heap.size (Dk.fresh 1000) from h)
  clear h
  unfold ptr
  go_wp2_with fail
  refine (oopen_fresh (Fr.all w) w1 w.heap.size 1000 H.out.frame).mono ?_
  rintro e w2 ⟨o, rfl, h⟩
  have hb := bel_alloc w2 (.cells #[.int .i64 5, .int .i64 2] 84)
  have hk := (h.keep.grow hb).less (K' := fun k => k = w2.heap.size) (fun k hk => .inr (by rw [hk]; simp))
  obtain ⟨f, hfK, hfw, hl, hback⟩ := hk.callK
  have hrd : Reads f.w (.slice (some ⟨w2.heap.size, 0, none⟩) 1 1) owl.length (outCells owl) := by
    rw [hfw]
    exact Reads.lit w2 #[.int .i64 5, .int .i64 2] 84 1 _ rfl (by unfold maxLen; decide)
  have hfr : ∀ X, Since f X → Reads X (.slice (some ⟨w2.heap.size, 0, none⟩) 1 1) owl.length (outCells owl) := fun X hX => hrd.ownKept hX.size (fun g hg => by
    simp only [Value.ownBlock, Option.some.injEq] at hg
    exact hX.block g (hfK g (.inr hg.symm)))
  have HFR := Lib.hid hfr
  have HFK := Lib.hid hfK
  have HL := Lib.hid (show OutLive f _ o w.heap.size ow0 from hl)
  have HBK := Lib.hid hback
  clear h hb hk hfK hfw hl hrd hfr hback
  unfold ptr
  obtain ⟨W, hW⟩ : ∃ W, w2.alloc (.cells #[.int .i64 5, .int .i64 2] 84) = W := ⟨_, rfl⟩
  rw [hW] at HL
  have HW := Lib.hid hW
  obtain ⟨g, hgg⟩ : ∃ g, w2.heap.size = g := ⟨_, rfl⟩
  have HGG := Lib.hid hgg
  rw [hgg] at HFR HFK HBK
  clear hW hgg
  go_wp2_with fail
  rw [HW.out, HGG.out]
  refine (otell_any HL.out HF.out.1 (by omega) false 1 (by unfold Cl.In64; omega) _ owl (HFR.out W HL.out.old) (fun k hk => HFK.out k (.inr (by simpa [Value.ownBlock] using hk.symm))) (fun x hx => by simp [owl] at hx; subst hx; unfold Cl.In64; simp) (by decide)).mono ?_
  rintro e w3 ⟨rfl, h3⟩
  rw [HE.out.1]
  have H3 := Lib.hid (show OutLive f w3 o w.heap.size ow1 from h3)
  clear h3
  go_wp2_with fail
  refine (otell_any H3.out HF.out.2.1 (by decide) false 1 (by unfold Cl.In64; omega) (.slice none 0 0) [] (Reads.nil _) (fun k hk => by simp [Value.ownBlock] at hk) (fun x hx => by cases hx) (by decide)).mono ?_
  rintro e w4 ⟨rfl, h4⟩
  rw [HE.out.2.1]
  have H4 := Lib.hid (show OutLive f w4 o w.heap.size ow2 from h4)
  clear h4
  go_wp2_with fail
  have hc := counts_any H4.out false HE.out.2.2.2.2.2.1
  rw [HE.out.2.2.2.1] at hc
  refine hc.mono ?_
  clear hc
  rintro e w5 ⟨v5, rfl, hown5, hb5⟩
  obtain ⟨a5, c5, rfl⟩ := (Reads.own hown5).shape
  have H5 := Lib.hid (H4.out.below hb5)
  clear hown5 hb5
  go_wp2_with fail
  refine (omark_any H5.out HF.out.2.2 (by decide) 1 (by unfold Cl.In64; omega)).mono ?_
  rintro e w6 ⟨rfl, h6⟩
  rw [HE.out.2.2.1]
  have H6 := Lib.hid (show OutLive f w6 o w.heap.size ow3 from h6)
  clear h6
  go_wp2_with fail
  have hc := counts_any H6.out false HE.out.2.2.2.2.2.2
  rw [HE.out.2.2.2.2.1] at hc
  refine hc.mono ?_
  clear hc
  rintro e w7 ⟨v7, rfl, hown7, hb7⟩
  have h7 := H6.out.below hb7
  have hr1 := Reads.own hown7
  have hr2 := HFR.out w7 h7.old
  obtain ⟨a7, c7, rfl⟩ := hr1.shape
  have H7 := Lib.hid h7
  have HR1 := Lib.hid hr1
  have HR2 := Lib.hid hr2
  clear hown7 hb7 h7 hr1 hr2
  go_wp2_with fail
  refine (oequal_same w7 _ _ owl HR1.out HR2.out).mono ?_
  rintro e w8 ⟨rfl, hb8⟩
  have H8 := Lib.hid ((HBK.out w8 o ow3 (H7.out.below hb8)).old.bel)
  clear hb8
  go_wp2_with fail
  go_ret
  exact ⟨rfl, H8.out⟩

end Go.Proofs.Ytllecjhfbojgcaa
