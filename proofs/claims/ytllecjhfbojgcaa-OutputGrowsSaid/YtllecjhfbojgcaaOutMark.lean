/-
  The output's Mark walked.
-/
import Derived.Test.YtllecjhfbojgcaaOutTakes
namespace Go.Proofs.Ytllecjhfbojgcaa
open Go.RowKit
set_option maxRecDepth 20000

/-- What a record's frame is at most. -/
@[irreducible] def outC : Nat := 20100
structure OFit (j : Nat) (S : OSt) : Prop where
  m : S.D.loose.length ≤ j
  b : ∀ p, (Lg.bytesOf (S.L p).rs).length ≤ j * outC
  n : ∀ p, (S.r p).length ≤ j
theorem OFit.mono {i j : Nat} {S : OSt} (h : OFit i S) (hj : i ≤ j) : OFit j S := ⟨Nat.le_trans h.m hj, fun p => Nat.le_trans (h.b p) (Nat.mul_le_mul_right outC hj), fun p => Nat.le_trans (h.n p) hj⟩
theorem OFit.big {j : Nat} {S : OSt} (h : OFit j S) (hj : j ≤ 40000) (p : Bool) : S.D.loose.length ≤ 1000000000 ∧ (Lg.bytesOf (S.L p).rs).length ≤ 900000000 ∧ (S.r p).length ≤ 1000000000 := by
  have h1 := h.m
  have h2 := h.b p
  have h3 := h.n p
  have hc : j * outC ≤ 40000 * 20100 := Nat.mul_le_mul hj (by unfold outC; exact Nat.le_refl _)
  exact ⟨by omega, Nat.le_trans h2 (Nat.le_trans hc (by decide)), by omega⟩
theorem upd_all {α : Type} {f : Bool → α} {p : Bool} {v : α} {P : α → Prop} (h : ∀ q, P (f q)) (hv : P v) : ∀ q, P (upd f p v q) := fun q => by
  by_cases hq : q = p
  · rw [hq, upd_same]; exact hv
  · rw [upd_ne _ _ hq]; exact h q
theorem lput_rs (D : Dk.St) (f : Int) (L : Lg.St) (r : Lg.Rec) : (Lg.bytesOf (Lg.put D f L r).2.2.rs).length ≤ (Lg.bytesOf L.rs).length + (Lg.frameB r).length := by
  unfold Lg.put
  split
  · simp
  · split
    · simp
    · simp only [Lg.bytes_snoc, List.length_append]
      omega
theorem olput_loose (D : Dk.St) (f : Int) (L : Lg.St) (r : Lg.Rec) : (Lg.put D f L r).2.1.loose.length ≤ D.loose.length + 1 := by
  unfold Lg.put
  split
  · simp
  · split
    · exact Lg.append_loose D f _
    · exact Lg.append_loose D f _
theorem OFit.lput {j : Nat} {S : OSt} (h : OFit j S) (p : Bool) (r : Lg.Rec) (hr : r.text.size ≤ 20010) : OFit (j + 1) (S.lput p r).2 := by
  have hc : outC = 20100 := by unfold outC; rfl
  have hm := Nat.succ_mul j outC
  rw [Nat.succ_eq_add_one] at hm
  have h1 := olput_loose S.D (fO p) (S.L p) r
  have h2 := lput_rs S.D (fO p) (S.L p) r
  have h3 := Lg.frame_le r
  have h4 := h.m
  refine ⟨Nat.le_trans h1 (by omega), ?_, fun q => Nat.le_trans (h.n q) (by omega)⟩
  exact upd_all (P := fun (L : Lg.St) => (Lg.bytesOf L.rs).length ≤ (j + 1) * outC) (fun q => by have := h.b q; omega) (by have := h.b p; omega)
theorem OFit.put {j : Nat} {S : OSt} (h : OFit j S) (p : Bool) (r : ORec) (hr : r.l.length ≤ 1000) : OFit (j + 1) (S.put p r).2 := by
  have h1 := h.lput p (entO r) (by have := entO_size r; omega)
  unfold OSt.put
  split
  · refine ⟨h1.m, h1.b, ?_⟩
    exact upd_all (P := fun (l : List ORec) => l.length ≤ j + 1) (fun q => by have := h.n q; show (S.r q).length ≤ j + 1; omega) (by have := h.n p; rw [List.length_append, List.length_singleton]; show (S.r p).length + 1 ≤ j + 1; omega)
  · exact h1
theorem OFit.lsync {j : Nat} {S : OSt} (h : OFit j S) (p : Bool) : OFit j (S.lsync p).2 := by
  have h4 := h.m
  refine ⟨?_, ?_, h.n⟩
  · show (Lg.sync S.D (S.L p)).2.1.loose.length ≤ j
    unfold Lg.sync
    split
    · exact h4
    · split
      · exact Nat.le_trans (Lg.sync_loose S.D) h4
      · exact Nat.le_trans (Lg.sync_loose S.D) h4
  · refine upd_all (P := fun (L : Lg.St) => (Lg.bytesOf L.rs).length ≤ j * outC) h.b ?_
    have : (Lg.sync S.D (S.L p)).2.2.rs = (S.L p).rs := by
      unfold Lg.sync
      split
      · rfl
      · split <;> rfl
    rw [this]
    exact h.b p
theorem OFit.sync {j : Nat} {S : OSt} (h : OFit j S) : OFit j S.sync.2 := by
  unfold OSt.sync OSt.each
  split
  · exact h.lsync false
  · exact (h.lsync false).lsync true
theorem OFit.mark1 {j : Nat} {S : OSt} (h : OFit j S) (n : Int) (p : Bool) : OFit (j + 1) (OSt.mark1 n S p).2 := by
  unfold OSt.mark1
  split
  · exact h.mono (by omega)
  · split
    · exact h.mono (by omega)
    · exact h.put p _ (Nat.zero_le _)
theorem OFit.mark {j : Nat} {S : OSt} (h : OFit j S) (n : Int) : OFit (j + 2) (S.mark n).2 := by
  have h2 : OFit (j + 2) (S.each (OSt.mark1 n)).2 := by
    unfold OSt.each
    split
    · exact (h.mark1 n false).mono (by omega)
    · exact (h.mark1 n false).mark1 n true
  unfold OSt.mark
  split
  · exact h.mono (by omega)
  · split
    · exact h2
    · exact h2.sync

set_option maxHeartbeats 8000000 in
set_option maxRecDepth 100000 in
theorem mark1_any {fr : Fr} {w : World} {o d : Nat} {b l : Bool → Nat} {S : OSt} {col : Nat → Nat} {j : Nat} (h : OutAt fr w o d b l S col) (hf : OFit j S) (hj : j ≤ 40000) (p : Bool) (n : Int) (hn : Cl.In64 n) (g : Nat) (hg : w.heap[g]? = some (.cells #[.int .i64 n] 2)) :
    Calls Try.prog 76 #[ptr (b p) 0, ptr g 0] w fun e w' => e = .returned (.int .i64 (OSt.mark1 n S p).1) ∧ ∃ c', OutAt fr w' o d b l (OSt.mark1 n S p).2 c' := by
  obtain ⟨f1, f2, f3⟩ := hf.big hj p
  have hgl := (Array.getElem?_eq_some_iff.1 hg).1
  obtain ⟨W, hW⟩ : ∃ W, w.alloc (.cells #[.int .u8 2, .int .i64 n, .slice none 0 0] 142) = W := ⟨_, rfl⟩
  have hbW : Below w.heap.size w W := by rw [← hW]; exact bel_alloc _ _
  have hbox : W.heap[w.heap.size]? = some (.cells #[.int .u8 2, .int .i64 n, .slice none 0 0] 142) := by rw [← hW]; exact heap_alloc_new w _
  have hgW : W.heap[g]? = some (.cells #[.int .i64 n] 2) := (hbW.block g hgl).trans hg
  have hAW := h.below hbW
  have c0 := cells_at hg 0 _ rfl
  have d0 := cells_at hgW 0 _ rfl
  have x0 := cells_at hbox 0 _ rfl
  have x1 := cells_at hbox 1 _ rfl
  have x2 := cells_at hbox 2 _ rfl
  simp only [List.getElem_toArray, List.getElem_cons_zero, List.getElem_cons_succ] at c0 d0 x0 x1 x2
  have hbl := (Array.getElem?_eq_some_iff.1 hbox).1
  have HL := Lib.hid (fun (X : World) (hX : Below W.heap.size W X) => last_any ((hAW.below hX).part p) 2 2 (by decide))
  have HTK := Lib.hid (fun (X : World) (hX : Below W.heap.size W X) (hlt : lastO (S.r p) 2 < n) => takes_any ((hAW.below hX).part p) ⟨2, n, []⟩ none 0 (show (0 : Nat) ≤ 9223372036854775807 by decide) 2 (show (((2 : UInt8).toNat : Nat) : Int) = 2 by decide) (fun e => absurd (show (2 : UInt8) = 1 from e) (by decide)) (fun _ => hlt))
  have HPT := Lib.hid (fun (X : World) (hX : Below W.heap.size W X) => oput_any (hAW.below hX) p ⟨2, n, []⟩ (.slice none 0 0) (Reads.nil _) (fun k hk => by simp [Value.ownBlock] at hk) hn (fun x hx => by cases hx) (show (0 : Nat) ≤ 1000 by decide) f1 f2 f3 2 (show (((2 : UInt8).toNat : Nat) : Int) = 2 by decide))
  have HX := Lib.hid (fun (X : World) (hX : Below W.heap.size W X) => And.intro ((World.cell?_of_block (a := ⟨w.heap.size, 0, none⟩) (hX.block w.heap.size hbl)).trans x0) (And.intro ((World.cell?_of_block (a := ⟨w.heap.size, 1, none⟩) (hX.block w.heap.size hbl)).trans x1) ((World.cell?_of_block (a := ⟨w.heap.size, 2, none⟩) (hX.block w.heap.size hbl)).trans x2)))
  have HM := Lib.hid (show OSt.mark1 n S p = if n ≤ lastO (S.r p) 2 then (0, S) else if takesO (S.r p) ⟨2, n, []⟩ = false then (5, S) else S.put p ⟨2, n, []⟩ from rfl)
  obtain ⟨Z, hZ⟩ : ∃ Z, OSt.mark1 n S p = Z := ⟨_, rfl⟩
  rw [hZ] at HM ⊢
  obtain ⟨B, hB⟩ : ∃ B, lastO (S.r p) 2 = B := ⟨_, rfl⟩
  obtain ⟨T, hT⟩ : ∃ T, takesO (S.r p) ⟨2, n, []⟩ = T := ⟨_, rfl⟩
  obtain ⟨Y, hY⟩ : ∃ Y, S.put p ⟨2, n, []⟩ = Y := ⟨_, rfl⟩
  rw [hB, hT] at HTK
  rw [hB] at HL
  rw [hB, hT, hY] at HM
  rw [hY] at HPT
  have HAW := Lib.hid hAW
  have HW := Lib.hid hW
  have hgl2 := (Array.getElem?_eq_some_iff.1 hgW).1
  clear h hf hgW hg hAW hW hbW hbox hZ hB hT hY x0 x1 x2 f1 f2 f3 hn
  unfold ptr at HL HTK HPT ⊢
  go_enter Try.func76, Try.ntmps76
  go_upto_region 2 with fail
  rw [HW.out]
  go_region_held3 (fun w' => Below W.heap.size W w' ∧ w'.cell? ⟨g, 0, none⟩ = some (.int .i64 n))
    (first
      | exact ⟨bel_drew _, d0⟩
      | exact ⟨hS.1.trans (hb3.mono hS.1.size), (hb3.cell (p := ⟨g, 0, none⟩) (Nat.lt_of_lt_of_le hgl2 hS.1.size)).trans hS.2⟩)
    (first
      | (go_at_call 77; have hS := ‹Below W.heap.size W _ ∧ _›; refine (HL.out _ hS.1).mono ?_; rintro e w3 ⟨rfl, hb3⟩))
  all_goals
    have hF := (‹Below W.heap.size W _ ∧ _›).1
    have HF := Lib.hid hF
    clear d0 c0
    rename_i hHeld
    clear hHeld hS hb3 hF
    by_cases hc : n ≤ B
    · have hz : Z = (0, S) := by rw [HM.out, if_pos hc]
      have HZ := Lib.hid hz
      clear hz
      go_wp2_with fail
      go_ret
      rw [HZ.out]
      exact ⟨rfl, col, HAW.out.below HF.out⟩
    · have hlt : B < n := by omega
      have htk := HTK.out w3 HF.out hlt
      rw [show (([] : List OutX).length) = 0 from rfl] at htk
      have HK := Lib.hid htk
      obtain ⟨x0, x1, x2⟩ := HX.out w3 HF.out
      clear htk
      go_wp2_with fail
      refine HK.out.mono ?_
      rintro e w4 ⟨rfl, hb4⟩
      have HF4 := Lib.hid (HF.out.trans (hb4.mono HF.out.size))
      clear hb4 x0 x1 x2
      obtain ⟨x0, x1, x2⟩ := HX.out w4 HF4.out
      cases T with
      | false =>
        have hz : Z = (5, S) := by rw [HM.out, if_neg (by omega), if_pos rfl]
        have HZ := Lib.hid hz
        clear hz
        go_wp2_with fail
        go_ret
        rw [HZ.out]
        exact ⟨rfl, col, HAW.out.below HF4.out⟩
      | true =>
        have hz : Z = Y := by rw [HM.out, if_neg (by omega), if_neg (by decide)]
        have HZ := Lib.hid hz
        clear hz
        go_wp2_with fail
        refine (HPT.out w4 HF4.out).mono ?_
        rintro e w5 ⟨rfl, c5, h5⟩
        have H5 := Lib.hid h5
        clear h5
        go_wp2_with fail
        go_ret
        rw [HZ.out]
        exact ⟨rfl, c5, H5.out⟩

theorem OutK.into {fr : Fr} {w : World} {o d : Nat} {S : OSt} {K : Nat → Prop} (h : OutK fr w o d S K) : ∃ (hs : Since fr w) (hK : ∀ k, K k → k < w.heap.size) (b l : Bool → Nat) (col : Nat → Nat), OutAt (fr.more hs K hK) w o d b l S col := by
  obtain ⟨b, l, col, h, h2⟩ := h
  exact ⟨h.old, fun k hk => (h2 k hk).2, b, l, col, Since.refl _ _ _, fun k hk => hk.elim (h.keep k) (fun e => (h2 k e).1), h.lt, h.disk, h.log, h.part, h.cell, h.co⟩

theorem omark_nil (n : Int) (w : World) : Calls Try.prog 38 #[.pointer none, .int .i64 n] w fun e w' => e = .returned (.int .i64 1) ∧ Below w.heap.size w w' := by
  go_enter Try.func38, Try.ntmps38
  go_wp2_with fail
  go_ret
  exact ⟨rfl, bel_alloc _ _⟩
set_option maxHeartbeats 4000000 in
theorem omark_any {fr : Fr} {w : World} {o d : Nat} {S : OSt} {j : Nat} (h : OutLive fr w o d S) (hf : OFit j S) (hj : j ≤ 30000) (n : Int) (hn : Cl.In64 n) :
    Calls Try.prog 38 #[ptr o 0, .int .i64 n] w fun e w' => e = .returned (.int .i64 (S.mark n).1) ∧ OutLive fr w' o d (S.mark n).2 := by
  by_cases hn1 : n < 1
  · have hz : S.mark n = (2, S) := by unfold OSt.mark; rw [if_pos hn1]
    have HH := Lib.hid (h.below (bel_alloc w (.cells #[.int .i64 n] 2)))
    rw [hz]
    unfold ptr
    clear h hf hn hz
    go_enter Try.func38, Try.ntmps38
    go_wp2_with fail
    go_ret
    exact ⟨rfl, HH.out⟩
  · have hz : S.mark n = if (S.each (OSt.mark1 n)).1 ≠ 0 then S.each (OSt.mark1 n) else (S.each (OSt.mark1 n)).2.sync := by unfold OSt.mark; rw [if_neg hn1]
    rw [hz]
    obtain ⟨W, hW⟩ : ∃ W, w.alloc (.cells #[.int .i64 n] 2) = W := ⟨_, rfl⟩
    have hbW : Below w.heap.size w W := by rw [← hW]; exact bel_alloc _ _
    have hbox : W.heap[w.heap.size]? = some (.cells #[.int .i64 n] 2) := by rw [← hW]; exact heap_alloc_new w _
    have hK := (h.keep.grow hbW).less (K' := fun k => k = w.heap.size) (fun k hk => .inr (by rw [hk]; exact ⟨Nat.le_refl _, (Array.getElem?_eq_some_iff.1 hbox).1⟩))
    obtain ⟨hs, hKl, b, l, col, hA⟩ := hK.into
    have hbx : ∀ (X : World) (c : Nat → Nat) (T : OSt), OutAt (fr.more hs _ hKl) X o d b l T c → X.heap[w.heap.size]? = some (.cells #[.int .i64 n] 2) := fun X c T hX => ((Since.more hX.old).2 _ rfl).trans hbox
    have he := each_any hA 76 (enters_run Try.func76 (by kernel_rfl) rfl) (ptr w.heap.size 0) (OSt.mark1 n)
      (fun X c hX => mark1_any hX hf (by omega) false n hn w.heap.size (hbx X c S hX))
      (fun X c hX => mark1_any hX (hf.mark1 n false) (by omega) true n hn w.heap.size (hbx X c _ hX))
    have HE := Lib.hid he
    have x0 := cells_at hbox 0 _ rfl
    simp only [List.getElem_toArray, List.getElem_cons_zero] at x0
    obtain ⟨E, T, hET⟩ : ∃ E T, S.each (OSt.mark1 n) = (E, T) := ⟨_, _, rfl⟩
    rw [hET] at HE ⊢
    obtain ⟨Z, hZ⟩ : ∃ Z, (if (E, T).1 ≠ 0 then (E, T) else (E, T).2.sync) = Z := ⟨_, rfl⟩
    rw [hZ]
    have HZ0 := Lib.hid (show E = 0 → Z = T.sync from fun he => by rw [← hZ, if_neg (by simpa using he)])
    have HZE := Lib.hid (show E ≠ 0 → Z = (E, T) from fun he => by rw [← hZ, if_pos he])
    have HW := Lib.hid hW
    unfold ptr at HE ⊢
    have hn2 : ¬ n < 1 := hn1
    clear h hf hn hz he hET hZ hbx hA hbox hbW hK hW x0
    go_enter Try.func38, Try.ntmps38
    go_wp2_with fail
    rw [HW.out]
    refine HE.out.mono ?_
    rintro e w1 ⟨rfl, c1, h1⟩
    have H1 := Lib.hid (show OutLive fr w1 o d T from (OutLive.back ⟨b, l, c1, h1⟩).1.live)
    clear h1
    by_cases hE : E = 0
    · subst hE
      have hsy := osync_any H1.out
      unfold ptr at hsy
      have HS := Lib.hid hsy
      clear hsy
      go_wp2_with fail
      refine HS.out.mono ?_
      rintro e w2 ⟨rfl, h2⟩
      have H2 := Lib.hid h2
      clear h2
      go_wp2_with fail
      go_ret
      rw [HZ0.out trivial]
      exact ⟨rfl, H2.out⟩
    · have hb : (E != 0) = true := by simpa using hE
      go_wp2_with fail
      go_ret
      rw [HZE.out hE]
      exact ⟨rfl, H1.out⟩

end Go.Proofs.Ytllecjhfbojgcaa
