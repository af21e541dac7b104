/-
  The reference's pipe walked: New, Head, Take.
-/
import Derived.Test.YtgoglcggnmfapaaPipeOrd
namespace Go.Proofs.Ytgoglcggnmfapaa
open Go.RowKit Go.Conc

def msgCells (l : List MsgV) : List Value := l.flatMap fun m => [.int .i64 m.seq, .int .i64 m.bar, m.lv]
theorem msgCells_cons (m : MsgV) (l : List MsgV) : msgCells (m :: l) = [.int .i64 m.seq, .int .i64 m.bar, m.lv] ++ msgCells l := rfl
theorem msgCells_snoc (l : List MsgV) (m : MsgV) : msgCells l ++ [.int .i64 m.seq, .int .i64 m.bar, m.lv] = msgCells (l ++ [m]) := by simp [msgCells]
theorem msgCells_len (l : List MsgV) : (msgCells l).length = l.length * 3 := by
  induction l with
  | nil => rfl
  | cons r l ih => rw [msgCells_cons, List.length_append, ih, List.length_cons]; simp; omega

/-- The reference's pipe at rb: its row of messages Lv lies in blocks from N on. -/
structure RefAt (w : World) (rb n N : Nat) (Lv : Value) (ms : List MsgV) : Prop where
  box : w.heap[rb]? = some (.cells #[Lv, .int .i64 (n : Int)] 43)
  row : Reads w Lv ms.length (msgCells ms)
  far : ∀ g, Lv.ownBlock = some g → N ≤ g
  rN : rb < N

theorem RefAt.below {w w' : World} {rb n N : Nat} {Lv : Value} {ms : List MsgV} (h : RefAt w rb n N Lv ms) (hb : Below w.heap.size w w') : RefAt w' rb n N Lv ms :=
  ⟨(hb.block _ (Array.getElem?_eq_some_iff.1 h.box).1).trans h.box, h.row.below hb, h.far, h.rN⟩

theorem refnew_ok (n : Nat) (w : World) (h1 : 1 ≤ n) (h8 : n ≤ 8) :
    Calls Try.prog 10 #[.int .i64 (n : Int)] w fun e w' => e = .returned (.tuple #[.pointer (some ⟨w.heap.size, 0, none⟩), .int .i64 0]) ∧ Below w.heap.size w w' ∧ w.heap.size < w'.heap.size ∧ RefAt w' w.heap.size n (w.heap.size + 1) (.slice none 0 0) [] := by
  have hd1 : decide ((n : Int) < 1) = false := by simp; omega
  have hd2 : decide ((8 : Int) < (n : Int)) = false := by simp; omega
  go_enter Try.func10, Try.ntmps10
  go_wp2_with fail
  go_ret2
  exact ⟨rfl, bel_alloc _ _, by simp, heap_alloc_new w _, Reads.nil _, (fun g e => by cases e), Nat.lt_succ_self _⟩

theorem refnew_bad (n : Int) (w : World) (h : n < 1 ∨ 8 < n) :
    Calls Try.prog 10 #[.int .i64 n] w fun e w' => e = .returned (.tuple #[.pointer none, .int .i64 2]) ∧ w = w' := by
  by_cases h1 : n < 1
  · have hd1 : decide (n < 1) = true := by simp; omega
    clear h
    go_enter Try.func10, Try.ntmps10
    go_wp2_with fail
    go_ret2
    exact ⟨rfl, rfl⟩
  · have hd1 : decide (n < 1) = false := by simp; omega
    have hd2 : decide ((8 : Int) < n) = true := by simp; omega
    clear h
    go_enter Try.func10, Try.ntmps10
    go_wp2_with fail
    go_ret2
    exact ⟨rfl, rfl⟩

theorem refhead_none (w : World) (rb n N : Nat) (Lv : Value) (h : RefAt w rb n N Lv []) :
    Calls Try.prog 14 #[.pointer (some ⟨rb, 0, none⟩)] w fun e w' => e = .returned (.tuple #[zeroMsg, .int .i64 4]) ∧ Below w.heap.size w w' := by
  obtain ⟨la, lc, rfl⟩ := h.row.shape
  have b0 := cells_at h.box 0 _ rfl
  simp only [List.getElem_toArray, List.getElem_cons_zero] at b0
  have hlt := (Array.getElem?_eq_some_iff.1 h.box).1
  clear h
  go_enter Try.func14, Try.ntmps14
  go_wp2_with fail
  have hq := heap_alloc_new w (.cells #[.int .i64 0, .int .i64 0, .slice none 0 0] 33)
  have q0 := cells_at hq 0 _ rfl
  have q1 := cells_at hq 1 _ rfl
  have q2 := cells_at hq 2 _ rfl
  simp only [List.getElem_toArray, List.getElem_cons_succ, List.getElem_cons_zero] at q0 q1 q2
  exact bodyPost_ret (v := .tuple #[zeroMsg, .int .i64 4]) (by simp [results, Try.results14, go_sem, q0, q1, q2, zeroMsg]) rfl ⟨rfl, bel_alloc _ _⟩

theorem refhead_some (w : World) (rb n N : Nat) (Lv : Value) (m : MsgV) (ms : List MsgV) (h : RefAt w rb n N Lv (m :: ms)) (hlv : ∃ a n c, m.lv = .slice a n c) :
    Calls Try.prog 14 #[.pointer (some ⟨rb, 0, none⟩)] w fun e w' => e = .returned (.tuple #[m.val, .int .i64 0]) ∧ Below w.heap.size w w' := by
  obtain ⟨b, o, c, rfl, hcap, hcm, hbl, hcells⟩ := h.row.some (by simp)
  obtain ⟨a', n', c', hlv⟩ := hlv
  have g0 := hcells 0 _ rfl
  have g1 := hcells 1 _ rfl
  have g2 := hcells 2 _ rfl
  rw [hlv] at g2
  have hval : m.val = .agg #[.int .i64 m.seq, .int .i64 m.bar, .slice a' n' c'] := by unfold MsgV.val; rw [hlv]
  have HV := Lib.hid hval
  have b0 := cells_at h.box 0 _ rfl
  simp only [List.getElem_toArray, List.getElem_cons_zero] at b0
  have hlt := (Array.getElem?_eq_some_iff.1 h.box).1
  rw [Nat.add_zero] at g0
  obtain ⟨k, hk⟩ : ∃ k, (m :: ms).length = k := ⟨_, rfl⟩
  have hk0 : 0 < k := by rw [← hk]; simp
  rw [hk] at b0
  clear h hcells hlv hval hk hcap
  go_enter Try.func14, Try.ntmps14
  go_wp2_with fail
  have hq := heap_alloc_new w (.cells #[.int .i64 m.seq, .int .i64 m.bar, .slice a' n' c'] 33)
  have q0 := cells_at hq 0 _ rfl
  have q1 := cells_at hq 1 _ rfl
  have q2 := cells_at hq 2 _ rfl
  simp only [List.getElem_toArray, List.getElem_cons_succ, List.getElem_cons_zero] at q0 q1 q2
  rw [HV.out]
  exact bodyPost_ret (v := .tuple #[.agg #[.int .i64 m.seq, .int .i64 m.bar, .slice a' n' c'], .int .i64 0]) (by simp [results, Try.results14, go_sem, q0, q1, q2]) rfl ⟨rfl, bel_alloc _ _⟩

theorem reads_kept {w w' : World} {v : Value} {n : Nat} {cs : List Value} (h : Reads w v n cs) (hk : ∀ g, v.ownBlock = some g → w'.heap[g]? = w.heap[g]?) (hs : w.heap.size ≤ w'.heap.size) : Reads w' v n cs := by
  rcases h with h | ⟨b, off, cap, hv, h1, h2, h3, h4⟩
  · exact .inl h
  · refine .inr ⟨b, off, cap, hv, h1, h2, by omega, fun i c hi => ?_⟩
    rw [← h4 i c hi]
    exact World.cell?_of_block (hk b (by rw [hv]; rfl))

/-- The end of Take: the row, then the result's box, then a box of its own. -/
theorem reftake_fin {w w1 : World} {rb n N : Nat} {Lv Lv' : Value} {m : MsgV} {ms : List MsgV} (hA : Below w.heap.size w w1) (hra : RefAt w1 rb n N Lv (m :: ms)) (hrb : rb < w.heap.size)
    (hres : w1.heap[w.heap.size]? = some (.cells #[.int .i64 0, .int .i64 0, .slice none 0 0] 33)) (hLv : Reads w Lv' ms.length (msgCells ms)) (hfar : ∀ g, Lv'.ownBlock = some g → N ≤ g ∧ g < w.heap.size) (x y z : Value) (o : Obj) :
    Only (fun k => k = rb) w (((((w1.setCell ⟨rb, 0, none⟩ Lv').setCell ⟨w.heap.size, 0, none⟩ x).setCell ⟨w.heap.size, 1, none⟩ y).setCell ⟨w.heap.size, 2, none⟩ z).alloc o) ∧
    RefAt (((((w1.setCell ⟨rb, 0, none⟩ Lv').setCell ⟨w.heap.size, 0, none⟩ x).setCell ⟨w.heap.size, 1, none⟩ y).setCell ⟨w.heap.size, 2, none⟩ z).alloc o) rb n N Lv' ms ∧
    (((((w1.setCell ⟨rb, 0, none⟩ Lv').setCell ⟨w.heap.size, 0, none⟩ x).setCell ⟨w.heap.size, 1, none⟩ y).setCell ⟨w.heap.size, 2, none⟩ z).alloc o).heap[w.heap.size]? = some (.cells #[x, y, z] 33) := by
  obtain ⟨X, hX⟩ : ∃ X, w1.setCell ⟨rb, 0, none⟩ Lv' = X := ⟨_, rfl⟩
  obtain ⟨Y, hY⟩ : ∃ Y, ((X.setCell ⟨w.heap.size, 0, none⟩ x).setCell ⟨w.heap.size, 1, none⟩ y).setCell ⟨w.heap.size, 2, none⟩ z = Y := ⟨_, rfl⟩
  rw [hX, hY]
  have hsz := hA.size
  have hoX : Only (fun k => k = rb) w X := (Only.below hA).trans (by rw [← hX]; exact Only.setCell _ _ ⟨rb, 0, none⟩ _ rfl)
  have hbX : X.heap[rb]? = some (.cells #[Lv', .int .i64 (n : Int)] 43) := by rw [← hX]; have := cells_set hra.box 0 Lv'; simpa using this
  have hrX : X.heap[w.heap.size]? = some (.cells #[.int .i64 0, .int .i64 0, .slice none 0 0] 33) := by rw [← hX, Below.heap_setCell _ _ _ _ (by show w.heap.size ≠ rb; omega)]; exact hres
  have hrY : Y.heap[w.heap.size]? = some (.cells #[x, y, z] 33) := by rw [← hY]; exact cells_set3 hrX _ _ _
  have hYo : ∀ k, k ≠ w.heap.size → Y.heap[k]? = X.heap[k]? := fun k hk => by rw [← hY]; exact set3_other hk
  have hYs : Y.heap.size = X.heap.size := by rw [← hY]; simp [World.setCell]
  have hoY : Only (fun k => k = rb) w Y := by
    refine ⟨by rw [← hY]; exact hoX.os, by rw [← hY]; exact hoX.tape, by rw [← hY]; exact hoX.output, by rw [hYs]; exact hoX.size, fun k hk hs => ?_⟩
    rw [hYo k (by omega)]; exact hoX.block k hk hs
  have hbA : Below Y.heap.size Y (Y.alloc o) := bel_alloc _ _
  have hXs := hoX.size
  refine ⟨hoY.trans (Only.below hbA), ⟨?_, ?_, fun g hg => (hfar g hg).1, hra.rN⟩, (hbA.block _ (Array.getElem?_eq_some_iff.1 hrY).1).trans hrY⟩
  · rw [hbA.block rb (by omega), hYo rb (by omega)]; exact hbX
  · refine reads_kept hLv (fun g hg => ?_) (by have := hbA.size; omega)
    obtain ⟨h1, h2⟩ := hfar g hg
    have := hra.rN
    rw [hbA.block g (by omega), hYo g (by omega)]
    exact hoX.block g h2 (by omega)

theorem reftake_none (w : World) (rb n N : Nat) (Lv : Value) (h : RefAt w rb n N Lv []) :
    Calls Try.prog 16 #[.pointer (some ⟨rb, 0, none⟩)] w fun e w' => e = .returned (.tuple #[zeroMsg, .int .i64 4]) ∧ Below w.heap.size w w' := by
  have H := Lib.hid h
  clear h
  go_enter Try.func16, Try.ntmps16
  go_wp2_with fail
  refine (refhead_none _ rb n N Lv (H.out.below (bel_alloc _ _))).mono ?_
  rintro e w1 ⟨rfl, hb1⟩
  unfold zeroMsg
  have hres : w1.heap[w.heap.size]? = some (.cells #[.int .i64 0, .int .i64 0, .slice none 0 0] 33) := (hb1.block _ (by simp)).trans (heap_alloc_new w _)
  have f0 := cells_at hres 0 _ rfl
  have f1 := cells_at hres 1 _ rfl
  have f2 := cells_at hres 2 _ rfl
  have z0 := cells_free hres 0
  have z1 := cells_free hres 1
  have z2 := cells_free hres 2
  have hrs := (Array.getElem?_eq_some_iff.1 hres).1
  simp only [List.getElem_toArray, List.getElem_cons_succ, List.getElem_cons_zero] at f0 f1 f2
  have HB1 := Lib.hid (bel_trans (bel_alloc w _) hb1)
  have HRES := Lib.hid hres
  clear hres hb1
  go_wp2_with fail
  have hr := cells_set3 HRES.out (.int .i64 0) (.int .i64 0) (.slice none 0 0)
  have hq := ((bel_alloc (((w1.setCell ⟨w.heap.size, 0, none⟩ (.int .i64 0)).setCell ⟨w.heap.size, 1, none⟩ (.int .i64 0)).setCell ⟨w.heap.size, 2, none⟩ (.slice none 0 0)) (.cells #[.int .i64 0, .int .i64 0, .slice none 0 0] 33)).block _ (Array.getElem?_eq_some_iff.1 hr).1).trans hr
  have q0 := cells_at hq 0 _ rfl
  have q1 := cells_at hq 1 _ rfl
  have q2 := cells_at hq 2 _ rfl
  simp only [List.getElem_toArray, List.getElem_cons_succ, List.getElem_cons_zero] at q0 q1 q2
  exact bodyPost_ret (v := .tuple #[.agg #[.int .i64 0, .int .i64 0, .slice none 0 0], .int .i64 4]) (by simp [results, Try.results16, go_sem, q0, q1, q2]) rfl ⟨rfl, bel_trans (below_set3 HB1.out w.heap.size (Nat.le_refl _) _ _ _) (bel_alloc _ _)⟩

/-- The same block. -/
def OwnSame (v u : Value) : Prop := v.ownBlock = u.ownBlock

theorem reftake_some (w : World) (rb n N : Nat) (Lv : Value) (m : MsgV) (ms : List MsgV) (h : RefAt w rb n N Lv (m :: ms)) (hlv : ∃ a n c, m.lv = .slice a n c) :
    Calls Try.prog 16 #[.pointer (some ⟨rb, 0, none⟩)] w fun e w' => ∃ Lv', e = .returned (.tuple #[m.val, .int .i64 0]) ∧ Only (fun k => k = rb) w w' ∧ RefAt w' rb n N Lv' ms ∧ OwnSame Lv' Lv := by
  have H := Lib.hid h
  obtain ⟨b, o, c, rfl, hcap, hcm, hbl, hcells⟩ := h.row.some (by simp)
  obtain ⟨a', n', c', hlv⟩ := id hlv
  have HLV := Lib.hid hlv
  have hval : m.val = .agg #[.int .i64 m.seq, .int .i64 m.bar, .slice a' n' c'] := by unfold MsgV.val; rw [hlv]
  have HV := Lib.hid hval
  have HC := Lib.hid hcells
  clear h hcells hlv hval
  go_enter Try.func16, Try.ntmps16
  go_wp2_with fail
  refine (refhead_some _ rb n N _ m ms (H.out.below (bel_alloc _ _)) ⟨_, _, _, HLV.out⟩).mono ?_
  rintro e w1 ⟨rfl, hb1⟩
  rw [HV.out]
  have hres : w1.heap[w.heap.size]? = some (.cells #[.int .i64 0, .int .i64 0, .slice none 0 0] 33) := (hb1.block _ (by simp)).trans (heap_alloc_new w _)
  have f0 := cells_at hres 0 _ rfl
  have f1 := cells_at hres 1 _ rfl
  have f2 := cells_at hres 2 _ rfl
  have z0 := cells_free hres 0
  have z1 := cells_free hres 1
  have z2 := cells_free hres 2
  have hrs := (Array.getElem?_eq_some_iff.1 hres).1
  simp only [List.getElem_toArray, List.getElem_cons_succ, List.getElem_cons_zero] at f0 f1 f2
  have hA1 := bel_trans (bel_alloc w (.cells #[.int .i64 0, .int .i64 0, .slice none 0 0] 33)) hb1
  have hra := (H.out.below hA1)
  have b0 := cells_at hra.box 0 _ rfl
  have bf := cells_free hra.box 0
  simp only [List.getElem_toArray, List.getElem_cons_zero] at b0
  have hlt0 : rb < w.heap.size := (Array.getElem?_eq_some_iff.1 H.out.box).1
  have hlt : rb < w1.heap.size := by omega
  have HA1 := Lib.hid hA1
  have HRA := Lib.hid hra
  have HRES := Lib.hid hres
  obtain ⟨k, hk⟩ : ∃ k, ms.length = k := ⟨_, rfl⟩
  rw [List.length_cons, hk] at b0 hcap
  have hk1 : (1 : Int) ≤ ((k + 1 : Nat) : Int) := by omega
  have HK := Lib.hid hk
  clear hres hb1 hA1 hra hk
  go_wp2_with fail
  all_goals
    first
      | (have hfin := reftake_fin (Lv' := .slice (some ⟨b, o + 3, none⟩) k (c - 1)) HA1.out HRA.out hlt0 HRES.out (by
            rw [← HK.out]
            refine .inr ⟨b, o + 3, c - 1, rfl, by have := HK.out; omega, by omega, hbl, fun i v hi => ?_⟩
            have := HC.out (i + 3) v (by rw [msgCells_cons]; simpa using hi)
            rw [Nat.add_assoc, Nat.add_comm 3 i]; exact this) (fun g hg => by cases hg; exact ⟨H.out.far _ rfl, hbl⟩) (.int .i64 m.seq) (.int .i64 m.bar) (.slice a' n' c') (.cells #[.int .i64 m.seq, .int .i64 m.bar, .slice a' n' c'] 33)
         have q0 := cells_at hfin.2.2 0 _ rfl
         have q1 := cells_at hfin.2.2 1 _ rfl
         have q2 := cells_at hfin.2.2 2 _ rfl
         simp only [List.getElem_toArray, List.getElem_cons_succ, List.getElem_cons_zero] at q0 q1 q2
         exact bodyPost_ret (v := .tuple #[.agg #[.int .i64 m.seq, .int .i64 m.bar, .slice a' n' c'], .int .i64 0]) (by simp [results, Try.results16, go_sem, q0, q1, q2]) rfl ⟨by rw [HV.out], hfin.1, _, hfin.2.1, rfl⟩)
      | (have hfin := reftake_fin (Lv' := .slice (some ⟨b, o, none⟩) k 0) HA1.out HRA.out hlt0 HRES.out (by
            have hk0 : k = 0 := by omega
            have hms : ms = [] := List.eq_nil_of_length_eq_zero (by rw [HK.out]; exact hk0)
            subst hms
            rw [hk0]
            exact .inl ⟨_, _, rfl, rfl, rfl⟩) (fun g hg => by cases hg; exact ⟨H.out.far _ rfl, hbl⟩) (.int .i64 m.seq) (.int .i64 m.bar) (.slice a' n' c') (.cells #[.int .i64 m.seq, .int .i64 m.bar, .slice a' n' c'] 33)
         have q0 := cells_at hfin.2.2 0 _ rfl
         have q1 := cells_at hfin.2.2 1 _ rfl
         have q2 := cells_at hfin.2.2 2 _ rfl
         simp only [List.getElem_toArray, List.getElem_cons_succ, List.getElem_cons_zero] at q0 q1 q2
         exact bodyPost_ret (v := .tuple #[.agg #[.int .i64 m.seq, .int .i64 m.bar, .slice a' n' c'], .int .i64 0]) (by simp [results, Try.results16, go_sem, q0, q1, q2]) rfl ⟨by rw [HV.out], hfin.1, _, hfin.2.1, rfl⟩)

end Go.Proofs.Ytgoglcggnmfapaa
