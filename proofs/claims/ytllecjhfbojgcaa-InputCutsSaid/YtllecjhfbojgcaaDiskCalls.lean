/-
  The disk's calls walked: op, On, Loose, Left, Read, Power, Sync.
-/
import Derived.Test.YtllecjhfbojgcaaDiskWalks
namespace Go.Proofs.Ytllecjhfbojgcaa
open Go.RowKit
set_option maxRecDepth 20000

theorem diskC_rest {S : Dk.St} (h : Dk.Ok S) (lv : Value) : (diskCells S lv)[33]? = some lv ∧ (diskCells S lv)[34]? = some (.bool S.off) ∧ (diskCells S lv)[35]? = some (.int .i64 S.left) := by
  have h0 := diskL_rest h lv 0
  have h1 := diskL_rest h lv 1
  have h2 := diskL_rest h lv 2
  exact ⟨by simpa [diskCells] using h0, by simpa [diskCells] using h1, by simpa [diskCells] using h2⟩
theorem diskC_set {S : Dk.St} (hn : S.now.length = 16) (hs : S.sure.length = 16) (lv : Value) :
    (∀ v, (diskCells S lv).setIfInBounds 33 v = diskCells S v) ∧ (∀ b, (diskCells S lv).setIfInBounds 34 (.bool b) = diskCells { S with off := b } lv) ∧ (∀ n, (diskCells S lv).setIfInBounds 35 (.int .i64 n) = diskCells { S with left := n } lv) := by
  obtain ⟨h1, h2, h3⟩ := diskL_set_rest hn hs lv
  refine ⟨fun v => ?_, fun v => ?_, fun v => ?_⟩
  · show (diskL S lv).toArray.setIfInBounds _ _ = _
    rw [List.setIfInBounds_toArray, h1]; rfl
  · show (diskL S lv).toArray.setIfInBounds _ _ = _
    rw [List.setIfInBounds_toArray, h2]; rfl
  · show (diskL S lv).toArray.setIfInBounds _ _ = _
    rw [List.setIfInBounds_toArray, h3]; rfl

/-- A store into the disk's own block that leaves its loose changes. -/
theorem DiskAt.set {w : World} {d : Nat} {S S' : Dk.St} {F : Nat → Prop} {lv : Value} (h : DiskAt w d S F) (hc : w.heap[d]? = some (.cells (diskCells S lv) 92)) (hl : LooseAt w F S.loose lv)
    (i : Nat) (v : Value) (hS : (diskCells S lv).setIfInBounds i v = diskCells S' lv) (hok : Dk.Ok S') (hlo : S'.loose = S.loose) : Only (fun k => k = d) w (w.setCell ⟨d, i, none⟩ v) ∧ DiskAt (w.setCell ⟨d, i, none⟩ v) d S' F := by
  have hon : Only (fun k => k = d) w (w.setCell ⟨d, i, none⟩ v) := Only.setCell _ w ⟨d, i, none⟩ v rfl
  refine ⟨hon, hok, h.mem, fun k hk => by simpa using h.lt k hk, lv, ?_, ?_⟩
  · rw [cells_set hc, hS]
  · rw [hlo]
    obtain ⟨vs, h1, h2, h3, h4⟩ := hl
    have hne : ∀ (b : Nat) (c : Array Value) (T : TypeId), w.heap[b]? = some (Obj.cells c T) → T ≠ 92 → (w.setCell ⟨d, i, none⟩ v).heap[b]? = w.heap[b]? := fun b c T hb hT =>
      Below.heap_setCell _ _ _ _ (fun e => by
        have e : b = d := e
        subst e
        rw [hc] at hb
        simp only [Option.some.injEq, Obj.cells.injEq] at hb
        exact hT hb.2.1.symm)
    refine ⟨vs, own_kept h1 ?_, h2, h3, fun i c hi => ?_⟩
    · intro g hg
      rcases h1.2 with hh | ⟨g', cap, cur, hv, _, hcc, _⟩
      · rw [hh.1] at hg; cases hg
      · rw [hv] at hg
        simp only [Value.ownBlock, Option.some.injEq] at hg
        subst hg
        exact hne _ _ _ hcc (by decide)
    · obtain ⟨p, hp, hch⟩ := h4 i c hi
      refine ⟨p, hp, ?_⟩
      generalize p.1 = x at hch ⊢
      generalize p.2 = y at hch ⊢
      cases hch with
      | app f s a b p ha hb hp fa fb fp => exact .app f s a b p ((hne _ _ _ ha (by decide)).trans ha) ((hne _ _ _ hb (by decide)).trans hb) ((hne _ _ _ hp (by decide)).trans hp) fa fb fp
      | cut f n a b ha hb fa fb => exact .cut f n a b ((hne _ _ _ ha (by decide)).trans ha) ((hne _ _ _ hb (by decide)).trans hb) fa fb
      | mov f g a b ha hb fa fb => exact .mov f g a b ((hne _ _ _ ha (by decide)).trans ha) ((hne _ _ _ hb (by decide)).trans hb) fa fb

theorem op_ok {S : Dk.St} (h : Dk.Ok S) : Dk.Ok (Dk.op S).2 ∧ (Dk.op S).2.loose = S.loose ∧ (Dk.op S).2.now = S.now ∧ (Dk.op S).2.sure = S.sure := by
  have hl := h.left
  unfold Dk.op
  split
  · exact ⟨⟨h.room, h.sureL, h.now, h.chain, h.left⟩, rfl, rfl, rfl⟩
  · split
    · exact ⟨⟨h.room, h.sureL, h.now, h.chain, by show -1 ≤ S.left - 1 ∧ S.left - 1 ≤ _; omega⟩, rfl, rfl, rfl⟩
    · exact ⟨h, rfl, rfl, rfl⟩

theorem op_any (w : World) (d : Nat) (S : Dk.St) (F : Nat → Prop) (h : DiskAt w d S F) :
    Calls Try.prog 96 #[ptr d 0] w fun e w' => e = .returned (.int .i64 (Dk.op S).1) ∧ Only (fun k => k = d) w w' ∧ DiskAt w' d (Dk.op S).2 F := by
  obtain ⟨lo, hc, hl⟩ := h.cells
  obtain ⟨-, c34, c35⟩ := diskC_rest h.ok lo
  have c34 := cells_at hc 34 _ c34
  have c35 := cells_at hc 35 _ c35
  have f34 := cells_free hc 34
  have f35 := cells_free hc 35
  obtain ⟨-, g34, g35⟩ := diskC_set h.ok.nowL h.ok.sureL lo
  have hlf := h.ok.left
  have hOK := (op_ok h.ok).1
  have H := Lib.hid h
  have HC := Lib.hid hc
  have HL := Lib.hid hl
  unfold Dk.op at hOK ⊢
  unfold ptr
  by_cases h0 : S.left = 0
  · rw [if_pos h0] at hOK ⊢
    rw [h0] at c35
    have HG := Lib.hid g34
    have HOK := Lib.hid hOK
    clear h hc hl g34 g35 hOK h0 hlf
    go_enter Try.func96, Try.ntmps96
    go_wp2_with fail
    go_ret
    exact ⟨rfl, H.out.set HC.out HL.out 34 _ (HG.out true) HOK.out rfl⟩
  · rw [if_neg h0] at hOK ⊢
    have hz : (S.left == 0) = false := by simpa using h0
    by_cases h1 : 0 < S.left
    · rw [if_pos h1] at hOK ⊢
      have hd : decide (0 < S.left) = true := by simpa using h1
      have HG := Lib.hid g35
      have HOK := Lib.hid hOK
      clear h hc hl g34 g35 hOK h0
      go_enter Try.func96, Try.ntmps96
      go_wp2_with fail
      go_ret
      exact ⟨rfl, H.out.set HC.out HL.out 35 _ (HG.out _) HOK.out rfl⟩
    · rw [if_neg h1] at hOK ⊢
      have hd : decide (0 < S.left) = false := by simpa using h1
      clear h hc hl g34 g35 hOK h0
      go_enter Try.func96, Try.ntmps96
      go_wp2_with fail
      go_ret
      exact ⟨rfl, Only.refl _ _, H.out⟩

theorem on_any (w : World) (d : Nat) (S : Dk.St) (F : Nat → Prop) (h : DiskAt w d S F) :
    Calls Try.prog 26 #[ptr d 0] w fun e w' => e = .returned (.bool (!S.off)) ∧ w = w' := by
  obtain ⟨lo, hc, hl⟩ := h.cells
  obtain ⟨-, c34, -⟩ := diskC_rest h.ok lo
  have c34 := cells_at hc 34 _ c34
  clear h hc hl
  unfold ptr
  go_enter Try.func26, Try.ntmps26
  go_wp2_with fail
  go_ret
  exact ⟨rfl, rfl⟩
theorem loose_any (w : World) (d : Nat) (S : Dk.St) (F : Nat → Prop) (h : DiskAt w d S F) :
    Calls Try.prog 25 #[ptr d 0] w fun e w' => e = .returned (.int .i64 (S.loose.length : Int)) ∧ w = w' := by
  obtain ⟨lo, hc, vs, hl, -⟩ := h.cells
  obtain ⟨c33, -, -⟩ := diskC_rest h.ok lo
  have c33 := cells_at hc 33 _ c33
  obtain ⟨a, c, rfl⟩ := (Reads.own hl).shape
  have hlen := (Reads.own hl).lenLe
  unfold maxLen at hlen
  clear h hc hl
  unfold ptr
  go_enter Try.func25, Try.ntmps25
  go_wp2_with fail
  go_ret
  exact ⟨rfl, rfl⟩

end Go.Proofs.Ytllecjhfbojgcaa
