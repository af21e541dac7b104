/-
  The changes' closures walked.
-/
import Derived.Test.YtllecjhfbojgcaaDiskCalls
import Derived.StillTailTactics
import Derived.Deep.RegionLaw
import Derived.BigRegion
namespace Go.Proofs.Ytllecjhfbojgcaa
open Go.RowKit
set_option maxRecDepth 20000

/-- Files, wherever they lie. -/
def FilesAt (w : World) (b o : Nat) (fs : Dk.Files) : Prop := ∀ i, i < 16 → w.cell? ⟨b, o + i, none⟩ = some (.string (Dk.at' fs i)) ∧ w.frozen? ⟨b, o + i, none⟩ = false

theorem part_any (w : World) (b o : Nat) (fs : Dk.Files) (hf : FilesAt w b o fs) (f : Nat) (hf16 : f < 16) (s : ByteArray) (x y : Nat) (n : Int)
    (hx : w.heap[x]? = some (.cells #[.int .i64 (f : Int)] 3)) (hy : w.heap[y]? = some (.cells #[.string s] 9)) (hs : s.size ≤ 4194304) (hz : (Dk.at' fs f).size ≤ 4194304) :
    Calls Try.prog 90 #[ptr b o, .int .i64 n, ptr x 0, ptr y 0] w fun e w' => e = .returned (.tuple #[]) ∧ w' = (w.setCell ⟨b, o + f, none⟩ (.string (Dk.at' fs f ++ s.extract 0 (Dk.clip n s.size)))).drew := by
  obtain ⟨hc, hfr⟩ := hf f hf16
  have cx := cells_at hx 0 _ rfl
  have cy := cells_at hy 0 _ rfl
  simp only [List.getElem_toArray, List.getElem_cons_zero] at cx cy
  obtain ⟨fv, hfv⟩ : ∃ fv, Dk.at' fs f = fv := ⟨_, rfl⟩
  rw [hfv] at hc hz ⊢
  have hfi : (f : Int) < 16 := by omega
  have hs0 : ((s.size : Int) < 0) = False := by simp
  have hs1 : ((0 : Int) ≤ (s.size : Int)) = True := by simp
  have hs2 : ((s.size : Int) ≤ (s.size : Int)) = True := by simp
  clear hf hx hy hfv
  unfold ptr
  by_cases h1 : (s.size : Int) < n
  · have hk : Dk.clip n s.size = s.size := by unfold Dk.clip; omega
    rw [hk, Dk.extract_all]
    have hsum : (9223372036854775807 < fv.size + s.size) = False := by simp; omega
    clear hk
    go_enter Try.func90, Try.ntmps90
    go_wp2_with fail
    refine wp_region_still_tail 15 (by kernel_rfl) (by kernel_rfl) ?_
    simp only [List.take_succ_cons, List.take_zero, List.drop_succ_cons, List.drop_zero]
    change wpStill _ _ w.drew (fun a' => wpList _ _ _ _ a' w.drew) _ _
    repeat still_step
    refine wpStill_nil ?_
    go_wp2_with fail
    go_end0
    exact ⟨rfl, rfl⟩
  · have h1 : ((s.size : Int) < n) = False := by simpa using h1
    by_cases h2 : n < 0
    · have hk : Dk.clip n s.size = 0 := by unfold Dk.clip; omega
      rw [hk]
      have hsum : (9223372036854775807 < fv.size) = False := by simp; omega
      have he : fv ++ s.extract 0 0 = fv := by simp
      rw [he]
      clear he
      clear hk
      go_enter Try.func90, Try.ntmps90
      go_wp2_with fail
      refine wp_region_still_tail 15 (by kernel_rfl) (by kernel_rfl) ?_
      simp only [List.take_succ_cons, List.take_zero, List.drop_succ_cons, List.drop_zero]
      change wpStill _ _ w.drew (fun a' => wpList _ _ _ _ a' w.drew) _ _
      repeat still_step
      refine wpStill_nil ?_
      go_wp2_with fail
      go_end0
      exact ⟨rfl, rfl⟩
    · obtain ⟨m, rfl⟩ : ∃ m : Nat, n = m := ⟨n.toNat, by omega⟩
      have h2 : ((m : Int) < 0) = False := by simp
      have h3 : ((0 : Int) ≤ (m : Int)) = True := by simp
      have h4 : ((m : Int) ≤ (s.size : Int)) = True := by simp at h1 ⊢; omega
      have hk : Dk.clip (m : Int) s.size = m := by simp at h1; unfold Dk.clip; omega
      rw [hk]
      have hsum : (9223372036854775807 < fv.size + min m s.size) = False := by simp; omega
      clear hk
      go_enter Try.func90, Try.ntmps90
      go_wp2_with fail
      refine wp_region_still_tail 15 (by kernel_rfl) (by kernel_rfl) ?_
      simp only [List.take_succ_cons, List.take_zero, List.drop_succ_cons, List.drop_zero]
      change wpStill _ _ w.drew (fun a' => wpList _ _ _ _ a' w.drew) _ _
      repeat still_step
      refine wpStill_nil ?_
      go_wp2_with fail
      go_end0
      exact ⟨rfl, rfl⟩

theorem app_any (w : World) (b o : Nat) (fs : Dk.Files) (hf : FilesAt w b o fs) (f : Nat) (hf16 : f < 16) (s : ByteArray) (x y p : Nat)
    (hx : w.heap[x]? = some (.cells #[.int .i64 (f : Int)] 3)) (hy : w.heap[y]? = some (.cells #[.string s] 9)) (hp : w.heap[p]? = some (.cells #[partV x y] 111)) (hs : s.size ≤ 4194304) (hz : (Dk.at' fs f).size ≤ 4194304) :
    Calls Try.prog 92 #[ptr b o, ptr p 0, ptr y 0] w fun e w' => e = .returned (.tuple #[]) ∧ w' = (w.setCell ⟨b, o + f, none⟩ (.string (Dk.at' fs f ++ s))).drew := by
  have hpart := Lib.hid (part_any w b o fs hf f hf16 s x y s.size hx hy hs hz)
  have cy := cells_at hy 0 _ rfl
  have cp := cells_at hp 0 _ rfl
  simp only [List.getElem_toArray, List.getElem_cons_zero] at cy cp
  unfold partV ptr at cp
  clear hf hx hy hp
  unfold ptr at hpart ⊢
  go_enter Try.func92, Try.ntmps92
  go_wp2_with fail
  refine hpart.out.mono ?_
  rintro e w' ⟨rfl, rfl⟩
  rw [Dk.clip_all, Dk.extract_all]
  go_wp2_with fail
  go_end0
  exact ⟨rfl, rfl⟩

theorem cut_clos (w : World) (b o : Nat) (fs : Dk.Files) (hf : FilesAt w b o fs) (f n : Nat) (hf16 : f < 16) (hn : n ≤ (Dk.at' fs f).size) (x y : Nat)
    (hx : w.heap[x]? = some (.cells #[.int .i64 (f : Int)] 3)) (hy : w.heap[y]? = some (.cells #[.int .i64 (n : Int)] 3)) :
    Calls Try.prog 94 #[ptr b o, ptr x 0, ptr y 0] w fun e w' => e = .returned (.tuple #[]) ∧ w' = (w.setCell ⟨b, o + f, none⟩ (.string ((Dk.at' fs f).extract 0 n))).drew := by
  obtain ⟨hc, hfr⟩ := hf f hf16
  have cx := cells_at hx 0 _ rfl
  have cy := cells_at hy 0 _ rfl
  simp only [List.getElem_toArray, List.getElem_cons_zero] at cx cy
  obtain ⟨fv, hfv⟩ : ∃ fv, Dk.at' fs f = fv := ⟨_, rfl⟩
  rw [hfv] at hc hn ⊢
  have hfi : (f : Int) < 16 := by omega
  have h3 : ((0 : Int) ≤ (n : Int)) = True := by simp
  have h4 : ((n : Int) ≤ (fv.size : Int)) = True := by simp; omega
  clear hf hx hy hfv
  unfold ptr
  go_enter Try.func94, Try.ntmps94
  go_wp2_with fail
  refine wp_region_still_tail 11 (by kernel_rfl) (by kernel_rfl) ?_
  simp only [List.take_succ_cons, List.take_zero, List.drop_succ_cons, List.drop_zero]
  change wpStill _ _ w.drew (fun a' => wpList _ _ _ _ a' w.drew) _ _
  repeat still_step
  refine wpStill_nil ?_
  go_wp2_with fail
  go_end0
  exact ⟨rfl, rfl⟩

end Go.Proofs.Ytllecjhfbojgcaa

/-
  The closure of Move walked.
-/
namespace Go.Proofs.Ytllecjhfbojgcaa
open Go.RowKit
set_option maxRecDepth 20000

set_option maxHeartbeats 4000000 in
theorem mov_clos (w : World) (b o : Nat) (fs : Dk.Files) (hf : FilesAt w b o fs) (f g : Nat) (hf16 : f < 16) (hg16 : g < 16) (hfg : f ≠ g) (x y : Nat) (hxb : x ≠ b)
    (hx : w.heap[x]? = some (.cells #[.int .i64 (f : Int)] 3)) (hy : w.heap[y]? = some (.cells #[.int .i64 (g : Int)] 3)) :
    Calls Try.prog 95 #[ptr b o, ptr x 0, ptr y 0] w fun e w' => e = .returned (.tuple #[]) ∧ w' = ((w.setCell ⟨b, o + g, none⟩ (.string (Dk.at' fs f))).setCell ⟨b, o + f, none⟩ (.string ByteArray.empty)).drew := by
  obtain ⟨hc, hfr⟩ := hf f hf16
  obtain ⟨hcg, hfrg⟩ := hf g hg16
  have cx := cells_at hx 0 _ rfl
  have cy := cells_at hy 0 _ rfl
  simp only [List.getElem_toArray, List.getElem_cons_zero] at cx cy
  obtain ⟨fv, hfv⟩ : ∃ fv, Dk.at' fs f = fv := ⟨_, rfl⟩
  rw [hfv] at hc ⊢
  have cx2 : (w.setCell ⟨b, o + g, none⟩ (.string fv)).cell? ⟨x, 0, none⟩ = some (.int .i64 (f : Int)) := by
    rw [World.cell?_of_block (Below.heap_setCell _ _ _ _ (by exact hxb))]; exact cx
  have cf2 : (w.setCell ⟨b, o + g, none⟩ (.string fv)).cell? ⟨b, o + f, none⟩ = some (.string fv) := by
    rw [World.cell?_setCell_other]
    · exact hc
    · intro e
      simp only [Addr.mk.injEq] at e
      omega
  have hfi : (f : Int) < 16 := by omega
  have hgi : (g : Int) < 16 := by omega
  clear hf hx hy hfv hxb
  unfold ptr
  go_enter Try.func95, Try.ntmps95
  go_wp2_with fail
  go_region_law (fail)
  all_goals
    go_wp2_with fail
    go_end0
    exact ⟨rfl, rfl⟩

end Go.Proofs.Ytllecjhfbojgcaa

/-
  A change made by its closure, on the files that are and on those that are sure.
-/
namespace Go.Proofs.Ytllecjhfbojgcaa
open Go.RowKit
set_option maxRecDepth 20000

theorem set_now {w : World} {d : Nat} {S : Dk.St} {lv : Value} (hc : w.heap[d]? = some (.cells (diskCells S lv) 92)) (hn : S.now.length = 16) (i : Nat) (hi : i < 16) (v : ByteArray) :
    (w.setCell ⟨d, 1 + i, none⟩ (.string v)).heap[d]? = some (.cells (diskCells { S with now := S.now.set i v } lv) 92) := by
  rw [cells_set hc]
  congr 2
  show (diskL S lv).toArray.setIfInBounds _ _ = _
  rw [List.setIfInBounds_toArray]
  unfold diskCells
  congr 1
  rw [Nat.add_comm]
  simp only [diskL, List.set_cons_succ]
  rw [List.set_append_left _ _ (by simp [hn]; omega), List.map_set]
theorem set_sure {w : World} {d : Nat} {S : Dk.St} {lv : Value} (hc : w.heap[d]? = some (.cells (diskCells S lv) 92)) (hn : S.now.length = 16) (hs : S.sure.length = 16) (i : Nat) (hi : i < 16) (v : ByteArray) :
    (w.setCell ⟨d, 17 + i, none⟩ (.string v)).heap[d]? = some (.cells (diskCells { S with sure := S.sure.set i v } lv) 92) := by
  rw [cells_set hc]
  congr 2
  show (diskL S lv).toArray.setIfInBounds _ _ = _
  rw [List.setIfInBounds_toArray, diskL_set_sure hn hs lv i hi v]
  rfl
theorem now_files {w : World} {d : Nat} {S : Dk.St} {lv : Value} (hc : w.heap[d]? = some (.cells (diskCells S lv) 92)) (hn : S.now.length = 16) : FilesAt w d 1 S.now := fun i hi => by
  refine ⟨cells_at hc _ _ ?_, cells_free hc _⟩
  show (diskL S lv).toArray[1 + i]? = _
  rw [List.getElem?_toArray, Nat.add_comm]
  simp only [diskL, List.getElem?_cons_succ]
  rw [List.getElem?_append_left (by simp [hn]; omega), List.getElem?_map, Dk.at_get _ _ (by rw [hn]; omega)]
  rfl
theorem sure_files {w : World} {d : Nat} {S : Dk.St} {lv : Value} (hc : w.heap[d]? = some (.cells (diskCells S lv) 92)) (hn : S.now.length = 16) (hs : S.sure.length = 16) : FilesAt w d 17 S.sure := fun i hi => by
  refine ⟨cells_at hc _ _ ?_, cells_free hc _⟩
  show (diskL S lv).toArray[17 + i]? = _
  rw [List.getElem?_toArray, show 17 + i = (16 + i) + 1 by omega]
  simp only [diskL, List.getElem?_cons_succ]
  rw [List.getElem?_append_right (by simp [hn]), List.getElem?_append_left (by simp [hn, hs]; omega), List.getElem?_map, Dk.at_get _ _ (by simp [hn, hs]; omega)]
  simp [hn]

/-- Where a block of another type lies. -/
theorem far {w : World} {a d : Nat} {c c' : Array Value} {T T' : TypeId} (h : w.heap[a]? = some (.cells c T)) (hd : w.heap[d]? = some (.cells c' T')) (hT : T ≠ T') : a ≠ d := by
  rintro rfl
  rw [h] at hd
  simp only [Option.some.injEq, Obj.cells.injEq] at hd
  exact hT hd.2.1

/-- Files at block d from o on become others; nothing else changes. -/
def Made (d : Nat) (D : Array Value) (w w' : World) : Prop := Only (fun k => k = d) w w' ∧ w'.heap[d]? = some (.cells D 92) ∧ w'.heap.size = w.heap.size

theorem enters_run {f : Nat} {fn : Func} {c : Code} (hf : Try.prog.funcs[f]? = some fn) (hname : (fn.name == "runtime.NumGoroutine") = false) (hb : fn.body = some c) : ∀ (args : Array Value) (w : World), (callFunc f args).run Try.prog w = .ok (.enter f args) w := fun args w => by
  have h1 : fn.name ≠ "runtime.NumGoroutine" := by simpa using hname
  simp [callFunc, hf, h1, hb]
theorem enters_app : ∀ args w, (callFunc 92 args).run Try.prog w = .ok (.enter 92 args) w := enters_run Try.func92 (by kernel_rfl) rfl
theorem enters_cut : ∀ args w, (callFunc 94 args).run Try.prog w = .ok (.enter 94 args) w := enters_run Try.func94 (by kernel_rfl) rfl
theorem enters_mov : ∀ args w, (callFunc 95 args).run Try.prog w = .ok (.enter 95 args) w := enters_run Try.func95 (by kernel_rfl) rfl

/-- A function value that makes a change on the files at (d, o). -/
def DoesAt (w : World) (d o : Nat) (x : Value) (D : Array Value) : Prop :=
  ∃ k c1 c2, x = .func (.func k) #[] #[c1, c2] ∧ (∀ args w, (callFunc k args).run Try.prog w = .ok (.enter k args) w) ∧
    Calls Try.prog k #[ptr d o, c1, c2] w fun e w' => e = .returned (.tuple #[]) ∧ Made d D w w'

theorem Made.set1 {w : World} {d i : Nat} {v : Value} {D : Array Value} (h : (w.setCell ⟨d, i, none⟩ v).heap[d]? = some (.cells D 92)) : Made d D w (w.setCell ⟨d, i, none⟩ v).drew :=
  ⟨(Only.setCell (fun k => k = d) w ⟨d, i, none⟩ v rfl).drewN 1, h, by simp⟩
theorem Made.set2 {w : World} {d i j : Nat} {v u : Value} {D : Array Value} (h : ((w.setCell ⟨d, i, none⟩ v).setCell ⟨d, j, none⟩ u).heap[d]? = some (.cells D 92)) : Made d D w ((w.setCell ⟨d, i, none⟩ v).setCell ⟨d, j, none⟩ u).drew :=
  ⟨((Only.setCell (fun k => k = d) w ⟨d, i, none⟩ v rfl).trans (Only.setCell (fun k => k = d) _ ⟨d, j, none⟩ u rfl)).drewN 1, h, by simp⟩

theorem size_app {f : Nat} {s : ByteArray} {fs : Dk.Files} {room : Nat} (hf : f < fs.length) (h : Dk.total ((Dk.Ch.app f s).run fs) ≤ room) : s.size ≤ room ∧ (Dk.at' fs f).size ≤ room := by
  rw [Dk.total_app _ _ _ hf] at h
  have := Dk.at_le fs f
  omega

theorem does_now {w : World} {d : Nat} {S : Dk.St} {lv : Value} (hc : w.heap[d]? = some (.cells (diskCells S lv) 92)) (hn : S.now.length = 16)
    {F : Nat → Prop} {c : Dk.Ch} {x y : Value} (hch : ChAt w F c x y) (hok : c.ok S.now) (ht : Dk.total (c.run S.now) ≤ 4194304) : DoesAt w d 1 x (diskCells { S with now := c.run S.now } lv) := by
  cases hch with
  | app f s a b p ha hb hp fa fb fp =>
    have hok : f < 16 := hok
    obtain ⟨h1, h2⟩ := size_app (by rw [hn]; exact hok) ht
    refine ⟨_, _, _, rfl, enters_app, (app_any w d 1 S.now (now_files hc hn) f hok s a b p ha hb hp h1 h2).mono fun e w' ⟨h3, h4⟩ => ⟨h3, ?_⟩⟩
    rw [h4]
    exact Made.set1 (set_now hc hn f hok _)
  | cut f n a b ha hb fa fb =>
    have hok : f < 16 ∧ n ≤ (Dk.at' S.now f).size := hok
    refine ⟨_, _, _, rfl, enters_cut, (cut_clos w d 1 S.now (now_files hc hn) f n hok.1 hok.2 a b ha hb).mono fun e w' ⟨h3, h4⟩ => ⟨h3, ?_⟩⟩
    rw [h4]
    exact Made.set1 (set_now hc hn f hok.1 _)
  | mov f g a b ha hb fa fb =>
    have hok : f < 16 ∧ g < 16 ∧ f ≠ g := hok
    refine ⟨_, _, _, rfl, enters_mov, (mov_clos w d 1 S.now (now_files hc hn) f g hok.1 hok.2.1 hok.2.2 a b (far ha hc (by decide)) ha hb).mono fun e w' ⟨h3, h4⟩ => ⟨h3, ?_⟩⟩
    rw [h4]
    exact Made.set2 (set_now (S := { S with now := S.now.set g (Dk.at' S.now f) }) (set_now hc hn g hok.2.1 _) (by simp [hn]) f hok.1 _)
theorem does_sure {w : World} {d : Nat} {S : Dk.St} {lv : Value} (hc : w.heap[d]? = some (.cells (diskCells S lv) 92)) (hn : S.now.length = 16) (hs : S.sure.length = 16)
    {F : Nat → Prop} {c : Dk.Ch} {x y : Value} (hch : ChAt w F c x y) (hok : c.ok S.sure) (ht : Dk.total (c.run S.sure) ≤ 4194304) : DoesAt w d 17 x (diskCells { S with sure := c.run S.sure } lv) := by
  cases hch with
  | app f s a b p ha hb hp fa fb fp =>
    have hok : f < 16 := hok
    obtain ⟨h1, h2⟩ := size_app (by rw [hs]; exact hok) ht
    refine ⟨_, _, _, rfl, enters_app, (app_any w d 17 S.sure (sure_files hc hn hs) f hok s a b p ha hb hp h1 h2).mono fun e w' ⟨h3, h4⟩ => ⟨h3, ?_⟩⟩
    rw [h4]
    exact Made.set1 (set_sure hc hn hs f hok _)
  | cut f n a b ha hb fa fb =>
    have hok : f < 16 ∧ n ≤ (Dk.at' S.sure f).size := hok
    refine ⟨_, _, _, rfl, enters_cut, (cut_clos w d 17 S.sure (sure_files hc hn hs) f n hok.1 hok.2 a b ha hb).mono fun e w' ⟨h3, h4⟩ => ⟨h3, ?_⟩⟩
    rw [h4]
    exact Made.set1 (set_sure hc hn hs f hok.1 _)
  | mov f g a b ha hb fa fb =>
    have hok : f < 16 ∧ g < 16 ∧ f ≠ g := hok
    refine ⟨_, _, _, rfl, enters_mov, (mov_clos w d 17 S.sure (sure_files hc hn hs) f g hok.1 hok.2.1 hok.2.2 a b (far ha hc (by decide)) ha hb).mono fun e w' ⟨h3, h4⟩ => ⟨h3, ?_⟩⟩
    rw [h4]
    exact Made.set2 (set_sure (S := { S with sure := S.sure.set g (Dk.at' S.sure f) }) (set_sure hc hn hs g hok.2.1 _) hn (by simp [hs]) f hok.1 _)

end Go.Proofs.Ytllecjhfbojgcaa
