/-
  A change made by its closure, on the files that are and on those that are sure.
-/
import Derived.Test.YtllecjhfbojgcaaDiskMov
namespace Go.Proofs.Ytllecjhfbojgcaa
open Go.RowKit
set_option maxRecDepth 20000

theorem set_now {w : World} {d : Nat} {S : Dk.St} {lv : Value} (hc : w.heap[d]? = some (.cells (diskCells S lv) 92)) (hn : S.now.length = 16) (i : Nat) (hi : i < 16) (v : ByteArray) :
    (w.setCell ⟨d, 1 + i, none⟩ (.string v)).heap[d]? = some (.cells (diskCells { S with now := S.now.set i v } lv) 92) := by
  rw [cells_set hc]
  congr 2
  show (diskL S lv).toArray.setIfInBounds _ _ = _
  rw [List.setIfInBounds_toArray]
  unfold diskCells
  congr 1
  rw [Nat.add_comm]
  simp only [diskL, List.set_cons_succ]
  rw [List.set_append_left _ _ (by simp [hn]; omega), List.map_set]
theorem set_sure {w : World} {d : Nat} {S : Dk.St} {lv : Value} (hc : w.heap[d]? = some (.cells (diskCells S lv) 92)) (hn : S.now.length = 16) (hs : S.sure.length = 16) (i : Nat) (hi : i < 16) (v : ByteArray) :
    (w.setCell ⟨d, 17 + i, none⟩ (.string v)).heap[d]? = some (.cells (diskCells { S with sure := S.sure.set i v } lv) 92) := by
  rw [cells_set hc]
  congr 2
  show (diskL S lv).toArray.setIfInBounds _ _ = _
  rw [List.setIfInBounds_toArray, diskL_set_sure hn hs lv i hi v]
  rfl
theorem now_files {w : World} {d : Nat} {S : Dk.St} {lv : Value} (hc : w.heap[d]? = some (.cells (diskCells S lv) 92)) (hn : S.now.length = 16) : FilesAt w d 1 S.now := fun i hi => by
  refine ⟨cells_at hc _ _ ?_, cells_free hc _⟩
  show (diskL S lv).toArray[1 + i]? = _
  rw [List.getElem?_toArray, Nat.add_comm]
  simp only [diskL, List.getElem?_cons_succ]
  rw [List.getElem?_append_left (by simp [hn]; omega), List.getElem?_map, Dk.at_get _ _ (by rw [hn]; omega)]
  rfl
theorem sure_files {w : World} {d : Nat} {S : Dk.St} {lv : Value} (hc : w.heap[d]? = some (.cells (diskCells S lv) 92)) (hn : S.now.length = 16) (hs : S.sure.length = 16) : FilesAt w d 17 S.sure := fun i hi => by
  refine ⟨cells_at hc _ _ ?_, cells_free hc _⟩
  show (diskL S lv).toArray[17 + i]? = _
  rw [List.getElem?_toArray, show 17 + i = (16 + i) + 1 by omega]
  simp only [diskL, List.getElem?_cons_succ]
  rw [List.getElem?_append_right (by simp [hn]), List.getElem?_append_left (by simp [hn, hs]; omega), List.getElem?_map, Dk.at_get _ _ (by simp [hn, hs]; omega)]
  simp [hn]

/-- Where a block of another type lies. -/
theorem far {w : World} {a d : Nat} {c c' : Array Value} {T T' : TypeId} (h : w.heap[a]? = some (.cells c T)) (hd : w.heap[d]? = some (.cells c' T')) (hT : T ≠ T') : a ≠ d := by
  rintro rfl
  rw [h] at hd
  simp only [Option.some.injEq, Obj.cells.injEq] at hd
  exact hT hd.2.1

/-- Files at block d from o on become others; nothing else changes. -/
def Made (d : Nat) (D : Array Value) (w w' : World) : Prop := Only (fun k => k = d) w w' ∧ w'.heap[d]? = some (.cells D 92) ∧ w'.heap.size = w.heap.size

theorem enters_run {f : Nat} {fn : Func} {c : Code} (hf : Try.prog.funcs[f]? = some fn) (hname : (fn.name == "runtime.NumGoroutine") = false) (hb : fn.body = some c) : ∀ (args : Array Value) (w : World), (callFunc f args).run Try.prog w = .ok (.enter f args) w := fun args w => by
  have h1 : fn.name ≠ "runtime.NumGoroutine" := by simpa using hname
  simp [callFunc, hf, h1, hb]
theorem enters_app : ∀ args w, (callFunc 92 args).run Try.prog w = .ok (.enter 92 args) w := enters_run Try.func92 (by kernel_rfl) rfl
theorem enters_cut : ∀ args w, (callFunc 94 args).run Try.prog w = .ok (.enter 94 args) w := enters_run Try.func94 (by kernel_rfl) rfl
theorem enters_mov : ∀ args w, (callFunc 95 args).run Try.prog w = .ok (.enter 95 args) w := enters_run Try.func95 (by kernel_rfl) rfl

/-- A function value that makes a change on the files at (d, o). -/
def DoesAt (w : World) (d o : Nat) (x : Value) (D : Array Value) : Prop :=
  ∃ k c1 c2, x = .func (.func k) #[] #[c1, c2] ∧ (∀ args w, (callFunc k args).run Try.prog w = .ok (.enter k args) w) ∧
    Calls Try.prog k #[ptr d o, c1, c2] w fun e w' => e = .returned (.tuple #[]) ∧ Made d D w w'

theorem Made.set1 {w : World} {d i : Nat} {v : Value} {D : Array Value} (h : (w.setCell ⟨d, i, none⟩ v).heap[d]? = some (.cells D 92)) : Made d D w (w.setCell ⟨d, i, none⟩ v).drew :=
  ⟨(Only.setCell (fun k => k = d) w ⟨d, i, none⟩ v rfl).drewN 1, h, by simp⟩
theorem Made.set2 {w : World} {d i j : Nat} {v u : Value} {D : Array Value} (h : ((w.setCell ⟨d, i, none⟩ v).setCell ⟨d, j, none⟩ u).heap[d]? = some (.cells D 92)) : Made d D w ((w.setCell ⟨d, i, none⟩ v).setCell ⟨d, j, none⟩ u).drew :=
  ⟨((Only.setCell (fun k => k = d) w ⟨d, i, none⟩ v rfl).trans (Only.setCell (fun k => k = d) _ ⟨d, j, none⟩ u rfl)).drewN 1, h, by simp⟩

theorem size_app {f : Nat} {s : ByteArray} {fs : Dk.Files} {room : Nat} (hf : f < fs.length) (h : Dk.total ((Dk.Ch.app f s).run fs) ≤ room) : s.size ≤ room ∧ (Dk.at' fs f).size ≤ room := by
  rw [Dk.total_app _ _ _ hf] at h
  have := Dk.at_le fs f
  omega

theorem does_now {w : World} {d : Nat} {S : Dk.St} {lv : Value} (hc : w.heap[d]? = some (.cells (diskCells S lv) 92)) (hn : S.now.length = 16)
    {F : Nat → Prop} {c : Dk.Ch} {x y : Value} (hch : ChAt w F c x y) (hok : c.ok S.now) (ht : Dk.total (c.run S.now) ≤ 4194304) : DoesAt w d 1 x (diskCells { S with now := c.run S.now } lv) := by
  cases hch with
  | app f s a b p ha hb hp fa fb fp =>
    have hok : f < 16 := hok
    obtain ⟨h1, h2⟩ := size_app (by rw [hn]; exact hok) ht
    refine ⟨_, _, _, rfl, enters_app, (app_any w d 1 S.now (now_files hc hn) f hok s a b p ha hb hp h1 h2).mono fun e w' ⟨h3, h4⟩ => ⟨h3, ?_⟩⟩
    rw [h4]
    exact Made.set1 (set_now hc hn f hok _)
  | cut f n a b ha hb fa fb =>
    have hok : f < 16 ∧ n ≤ (Dk.at' S.now f).size := hok
    refine ⟨_, _, _, rfl, enters_cut, (cut_clos w d 1 S.now (now_files hc hn) f n hok.1 hok.2 a b ha hb).mono fun e w' ⟨h3, h4⟩ => ⟨h3, ?_⟩⟩
    rw [h4]
    exact Made.set1 (set_now hc hn f hok.1 _)
  | mov f g a b ha hb fa fb =>
    have hok : f < 16 ∧ g < 16 ∧ f ≠ g := hok
    refine ⟨_, _, _, rfl, enters_mov, (mov_clos w d 1 S.now (now_files hc hn) f g hok.1 hok.2.1 hok.2.2 a b (far ha hc (by decide)) ha hb).mono fun e w' ⟨h3, h4⟩ => ⟨h3, ?_⟩⟩
    rw [h4]
    exact Made.set2 (set_now (S := { S with now := S.now.set g (Dk.at' S.now f) }) (set_now hc hn g hok.2.1 _) (by simp [hn]) f hok.1 _)
theorem does_sure {w : World} {d : Nat} {S : Dk.St} {lv : Value} (hc : w.heap[d]? = some (.cells (diskCells S lv) 92)) (hn : S.now.length = 16) (hs : S.sure.length = 16)
    {F : Nat → Prop} {c : Dk.Ch} {x y : Value} (hch : ChAt w F c x y) (hok : c.ok S.sure) (ht : Dk.total (c.run S.sure) ≤ 4194304) : DoesAt w d 17 x (diskCells { S with sure := c.run S.sure } lv) := by
  cases hch with
  | app f s a b p ha hb hp fa fb fp =>
    have hok : f < 16 := hok
    obtain ⟨h1, h2⟩ := size_app (by rw [hs]; exact hok) ht
    refine ⟨_, _, _, rfl, enters_app, (app_any w d 17 S.sure (sure_files hc hn hs) f hok s a b p ha hb hp h1 h2).mono fun e w' ⟨h3, h4⟩ => ⟨h3, ?_⟩⟩
    rw [h4]
    exact Made.set1 (set_sure hc hn hs f hok _)
  | cut f n a b ha hb fa fb =>
    have hok : f < 16 ∧ n ≤ (Dk.at' S.sure f).size := hok
    refine ⟨_, _, _, rfl, enters_cut, (cut_clos w d 17 S.sure (sure_files hc hn hs) f n hok.1 hok.2 a b ha hb).mono fun e w' ⟨h3, h4⟩ => ⟨h3, ?_⟩⟩
    rw [h4]
    exact Made.set1 (set_sure hc hn hs f hok.1 _)
  | mov f g a b ha hb fa fb =>
    have hok : f < 16 ∧ g < 16 ∧ f ≠ g := hok
    refine ⟨_, _, _, rfl, enters_mov, (mov_clos w d 17 S.sure (sure_files hc hn hs) f g hok.1 hok.2.1 hok.2.2 a b (far ha hc (by decide)) ha hb).mono fun e w' ⟨h3, h4⟩ => ⟨h3, ?_⟩⟩
    rw [h4]
    exact Made.set2 (set_sure (S := { S with sure := S.sure.set g (Dk.at' S.sure f) }) (set_sure hc hn hs g hok.2.1 _) hn (by simp [hs]) f hok.1 _)

end Go.Proofs.Ytllecjhfbojgcaa
