/-
  The disk's small functions walked: New, is, ready, op, On, Loose, Left.
-/
import Derived.Test.YtllecjhfbojgcaaDiskAt
namespace Go.Proofs.Ytllecjhfbojgcaa
open Go.RowKit
set_option maxRecDepth 20000

theorem is_any (f : Int) (w : World) :
    Calls Try.prog 88 #[.int .i64 f] w fun e w' => e = .returned (.bool (Dk.isF f)) ∧ w = w' := by
  by_cases h : 0 ≤ f
  · have h0 : decide ((0 : Int) ≤ f) = true := by simpa using h
    obtain ⟨b, hb⟩ : ∃ b, decide (f < 16) = b := ⟨_, rfl⟩
    have hi : Dk.isF f = b := by simp [Dk.isF, h, hb]
    rw [hi]
    clear hi h
    go_enter Try.func88, Try.ntmps88
    go_wp2_with fail
    go_ret
    exact ⟨rfl, rfl⟩
  · have h0 : decide ((0 : Int) ≤ f) = false := by simpa using h
    have hi : Dk.isF f = false := by simp [Dk.isF, h]
    rw [hi]
    clear hi h
    go_enter Try.func88, Try.ntmps88
    go_wp2_with fail
    go_ret
    exact ⟨rfl, rfl⟩

theorem new_bad (room : Int) (w : World) (h : ¬ (1 ≤ room ∧ room ≤ 4194304)) :
    Calls Try.prog 12 #[.int .i64 room] w fun e w' => e = .returned (.tuple #[.pointer none, .int .i64 2]) ∧ w = w' := by
  by_cases h1 : room < 1
  · have h0 : decide (room < 1) = true := by simpa using h1
    clear h h1
    go_enter Try.func12, Try.ntmps12
    go_wp2_with fail
    go_ret2
    exact ⟨rfl, rfl⟩
  · have h0 : decide (room < 1) = false := by simpa using h1
    have h2 : decide (4194304 < room) = true := by simp; omega
    clear h h1
    go_enter Try.func12, Try.ntmps12
    go_wp2_with fail
    go_ret2
    exact ⟨rfl, rfl⟩

theorem new_ok (room : Nat) (w : World) (h : 1 ≤ room ∧ room ≤ 4194304) :
    Calls Try.prog 12 #[.int .i64 (room : Int)] w fun e w' => e = .returned (.tuple #[ptr w.heap.size 0, .int .i64 0]) ∧ Below w.heap.size w w' ∧ DiskAt w' w.heap.size (Dk.fresh room) (fun k => k = w.heap.size) ∧ w'.heap.size = w.heap.size + 1 := by
  have h0 : decide ((room : Int) < 1) = false := by simp; omega
  have h2 : decide (4194304 < (room : Int)) = false := by simp; omega
  have H := Lib.hid h
  clear h
  go_enter Try.func12, Try.ntmps12
  go_wp2_with fail
  go_ret2
  refine ⟨rfl, bel_alloc _ _, ⟨Dk.fresh_ok _ H.out.2, rfl, fun k hk => by subst hk; simp, _, heap_alloc_new w _, LooseAt.nil _ _⟩, by simp⟩

theorem ready_nil (lv : Value) (w : World) :
    Calls Try.prog 52 #[.pointer none, lv] w fun e w' => e = .returned (.int .i64 1) ∧ w = w' := by
  go_enter Try.func52, Try.ntmps52
  go_wp2_with fail
  go_ret
  exact ⟨rfl, rfl⟩

theorem all_take {l : List Int} {k : Nat} {x : Int} (h : l[k]? = some x) : (l.take (k + 1)).all Dk.isF = ((l.take k).all Dk.isF && Dk.isF x) := by
  rw [take_snoc_of l k x h]
  simp

theorem ready_off (lv : Value) (w : World) (d : Nat) (S : Dk.St) (F : Nat → Prop) (h : DiskAt w d S F) (ho : S.off = true) :
    Calls Try.prog 52 #[ptr d 0, lv] w fun e w' => e = .returned (.int .i64 50) ∧ w = w' := by
  obtain ⟨lo, hc, hl⟩ := h.cells
  have c34 := cells_at hc 34 (.bool S.off) (by simpa [diskCells] using diskL_rest h.ok lo 1)
  rw [ho] at c34
  clear h hc hl
  unfold ptr
  go_enter Try.func52, Try.ntmps52
  go_wp2_with fail
  go_ret
  exact ⟨rfl, rfl⟩

set_option maxHeartbeats 1000000 in
theorem ready_on (l : List Int) (lv : Value) (w : World) (d : Nat) (S : Dk.St) (F : Nat → Prop) (h : DiskAt w d S F) (ho : S.off = false) (hr : Reads w lv l.length (ints l)) :
    Calls Try.prog 52 #[ptr d 0, lv] w fun e w' => e = .returned (.int .i64 (Dk.argE l)) ∧ w = w' := by
  obtain ⟨lo, hc, hl⟩ := h.cells
  have c34 := cells_at hc 34 (.bool S.off) (by simpa [diskCells] using diskL_rest h.ok lo 1)
  rw [ho] at c34
  clear h hc hl
  have hlen := hr.lenLe
  unfold maxLen at hlen
  obtain ⟨a, c, rfl⟩ := hr.shape
  have HR := Lib.hid hr
  clear hr
  unfold ptr
  go_enter Try.func52, Try.ntmps52
  go_wp2
  go_loop [17] (fun i => ∃ k : Nat, k ≤ l.length ∧ i = .int .i64 k ∧ (l.take k).all Dk.isF = true) (fun i => l.length - (intOf i).toNat)
  case atStart => exact ⟨0, Nat.zero_le _, rfl, rfl⟩
  case round =>
    obtain ⟨k, hk, rfl, ha⟩ := hrel
    have HA := Lib.hid ha
    clear ha
    by_cases hlt : k < l.length
    · obtain ⟨b, o, cp, hv, hcap, _, _, hcells⟩ := HR.out.some (by omega)
      simp only [Value.slice.injEq] at hv
      obtain ⟨rfl, -, rfl⟩ := hv
      obtain ⟨x, hx⟩ : ∃ x, l[k]? = some x := ⟨l[k], by simp⟩
      have hcx := ints_cell hcells k x hx
      have HX := Lib.hid (all_take hx)
      have HXX := Lib.hid hx
      clear hcells hx
      cases hb : Dk.isF x with
      | true =>
        have HB := Lib.hid hb
        clear hb
        go_wp2_with fail
        refine (is_any x _).mono ?_
        rintro e w' ⟨rfl, rfl⟩
        rw [HB.out]
        go_wp2_with fail
        go_round
        case rel => exact ⟨k + 1, by omega, by go_num, by rw [HX.out, HA.out, HB.out]; rfl⟩
        case measure => simp [intOf]; omega
      | false =>
        have HB := Lib.hid hb
        clear hb
        go_wp2_with fail
        refine (is_any x _).mono ?_
        rintro e w' ⟨rfl, rfl⟩
        rw [HB.out]
        go_wp2_with fail
        go_ret
        have : ¬ l.all Dk.isF = true := by
          intro hall
          have := List.all_eq_true.1 hall x (List.mem_of_getElem? HXX.out)
          rw [HB.out] at this
          cases this
        exact ⟨ret_int (Dk.argE_bad this).symm, rfl⟩
    · obtain rfl : k = l.length := by omega
      go_wp2_with fail
      go_ret
      exact ⟨ret_int (Dk.argE_ok (by have := HA.out; rwa [List.take_length] at this)).symm, rfl⟩

theorem ready_any (l : List Int) (lv : Value) (w : World) (d : Nat) (S : Dk.St) (F : Nat → Prop) (h : DiskAt w d S F) (hr : Reads w lv l.length (ints l)) :
    Calls Try.prog 52 #[ptr d 0, lv] w fun e w' => e = .returned (.int .i64 (Dk.ready S l)) ∧ w = w' := by
  unfold Dk.ready
  cases ho : S.off with
  | true => exact (ready_off lv w d S F h ho).mono fun e w' ⟨h1, h2⟩ => ⟨by rw [h1]; rfl, h2⟩
  | false => exact (ready_on l lv w d S F h ho hr).mono fun e w' ⟨h1, h2⟩ => ⟨by rw [h1]; rfl, h2⟩

end Go.Proofs.Ytllecjhfbojgcaa

/-
  The disk's calls walked: op, On, Loose, Left, Read, Power, Sync.
-/
namespace Go.Proofs.Ytllecjhfbojgcaa
open Go.RowKit
set_option maxRecDepth 20000

theorem diskC_rest {S : Dk.St} (h : Dk.Ok S) (lv : Value) : (diskCells S lv)[33]? = some lv ∧ (diskCells S lv)[34]? = some (.bool S.off) ∧ (diskCells S lv)[35]? = some (.int .i64 S.left) := by
  have h0 := diskL_rest h lv 0
  have h1 := diskL_rest h lv 1
  have h2 := diskL_rest h lv 2
  exact ⟨by simpa [diskCells] using h0, by simpa [diskCells] using h1, by simpa [diskCells] using h2⟩
theorem diskC_set {S : Dk.St} (hn : S.now.length = 16) (hs : S.sure.length = 16) (lv : Value) :
    (∀ v, (diskCells S lv).setIfInBounds 33 v = diskCells S v) ∧ (∀ b, (diskCells S lv).setIfInBounds 34 (.bool b) = diskCells { S with off := b } lv) ∧ (∀ n, (diskCells S lv).setIfInBounds 35 (.int .i64 n) = diskCells { S with left := n } lv) := by
  obtain ⟨h1, h2, h3⟩ := diskL_set_rest hn hs lv
  refine ⟨fun v => ?_, fun v => ?_, fun v => ?_⟩
  · show (diskL S lv).toArray.setIfInBounds _ _ = _
    rw [List.setIfInBounds_toArray, h1]; rfl
  · show (diskL S lv).toArray.setIfInBounds _ _ = _
    rw [List.setIfInBounds_toArray, h2]; rfl
  · show (diskL S lv).toArray.setIfInBounds _ _ = _
    rw [List.setIfInBounds_toArray, h3]; rfl

/-- A store into the disk's own block that leaves its loose changes. -/
theorem DiskAt.set {w : World} {d : Nat} {S S' : Dk.St} {F : Nat → Prop} {lv : Value} (h : DiskAt w d S F) (hc : w.heap[d]? = some (.cells (diskCells S lv) 92)) (hl : LooseAt w F S.loose lv)
    (i : Nat) (v : Value) (hS : (diskCells S lv).setIfInBounds i v = diskCells S' lv) (hok : Dk.Ok S') (hlo : S'.loose = S.loose) : Only (fun k => k = d) w (w.setCell ⟨d, i, none⟩ v) ∧ DiskAt (w.setCell ⟨d, i, none⟩ v) d S' F := by
  have hon : Only (fun k => k = d) w (w.setCell ⟨d, i, none⟩ v) := Only.setCell _ w ⟨d, i, none⟩ v rfl
  refine ⟨hon, hok, h.mem, fun k hk => by simpa using h.lt k hk, lv, ?_, ?_⟩
  · rw [cells_set hc, hS]
  · rw [hlo]
    obtain ⟨vs, h1, h2, h3, h4⟩ := hl
    have hne : ∀ (b : Nat) (c : Array Value) (T : TypeId), w.heap[b]? = some (Obj.cells c T) → T ≠ 92 → (w.setCell ⟨d, i, none⟩ v).heap[b]? = w.heap[b]? := fun b c T hb hT =>
      Below.heap_setCell _ _ _ _ (fun e => by
        have e : b = d := e
        subst e
        rw [hc] at hb
        simp only [Option.some.injEq, Obj.cells.injEq] at hb
        exact hT hb.2.1.symm)
    refine ⟨vs, own_kept h1 ?_, h2, h3, fun i c hi => ?_⟩
    · intro g hg
      rcases h1.2 with hh | ⟨g', cap, cur, hv, _, hcc, _⟩
      · rw [hh.1] at hg; cases hg
      · rw [hv] at hg
        simp only [Value.ownBlock, Option.some.injEq] at hg
        subst hg
        exact hne _ _ _ hcc (by decide)
    · obtain ⟨p, hp, hch⟩ := h4 i c hi
      refine ⟨p, hp, ?_⟩
      generalize p.1 = x at hch ⊢
      generalize p.2 = y at hch ⊢
      cases hch with
      | app f s a b p ha hb hp fa fb fp => exact .app f s a b p ((hne _ _ _ ha (by decide)).trans ha) ((hne _ _ _ hb (by decide)).trans hb) ((hne _ _ _ hp (by decide)).trans hp) fa fb fp
      | cut f n a b ha hb fa fb => exact .cut f n a b ((hne _ _ _ ha (by decide)).trans ha) ((hne _ _ _ hb (by decide)).trans hb) fa fb
      | mov f g a b ha hb fa fb => exact .mov f g a b ((hne _ _ _ ha (by decide)).trans ha) ((hne _ _ _ hb (by decide)).trans hb) fa fb

theorem op_ok {S : Dk.St} (h : Dk.Ok S) : Dk.Ok (Dk.op S).2 ∧ (Dk.op S).2.loose = S.loose ∧ (Dk.op S).2.now = S.now ∧ (Dk.op S).2.sure = S.sure := by
  have hl := h.left
  unfold Dk.op
  split
  · exact ⟨⟨h.room, h.sureL, h.now, h.chain, h.left⟩, rfl, rfl, rfl⟩
  · split
    · exact ⟨⟨h.room, h.sureL, h.now, h.chain, by show -1 ≤ S.left - 1 ∧ S.left - 1 ≤ _; omega⟩, rfl, rfl, rfl⟩
    · exact ⟨h, rfl, rfl, rfl⟩

theorem op_any (w : World) (d : Nat) (S : Dk.St) (F : Nat → Prop) (h : DiskAt w d S F) :
    Calls Try.prog 96 #[ptr d 0] w fun e w' => e = .returned (.int .i64 (Dk.op S).1) ∧ Only (fun k => k = d) w w' ∧ DiskAt w' d (Dk.op S).2 F := by
  obtain ⟨lo, hc, hl⟩ := h.cells
  obtain ⟨-, c34, c35⟩ := diskC_rest h.ok lo
  have c34 := cells_at hc 34 _ c34
  have c35 := cells_at hc 35 _ c35
  have f34 := cells_free hc 34
  have f35 := cells_free hc 35
  obtain ⟨-, g34, g35⟩ := diskC_set h.ok.nowL h.ok.sureL lo
  have hlf := h.ok.left
  have hOK := (op_ok h.ok).1
  have H := Lib.hid h
  have HC := Lib.hid hc
  have HL := Lib.hid hl
  unfold Dk.op at hOK ⊢
  unfold ptr
  by_cases h0 : S.left = 0
  · rw [if_pos h0] at hOK ⊢
    rw [h0] at c35
    have HG := Lib.hid g34
    have HOK := Lib.hid hOK
    clear h hc hl g34 g35 hOK h0 hlf
    go_enter Try.func96, Try.ntmps96
    go_wp2_with fail
    go_ret
    exact ⟨rfl, H.out.set HC.out HL.out 34 _ (HG.out true) HOK.out rfl⟩
  · rw [if_neg h0] at hOK ⊢
    have hz : (S.left == 0) = false := by simpa using h0
    by_cases h1 : 0 < S.left
    · rw [if_pos h1] at hOK ⊢
      have hd : decide (0 < S.left) = true := by simpa using h1
      have HG := Lib.hid g35
      have HOK := Lib.hid hOK
      clear h hc hl g34 g35 hOK h0
      go_enter Try.func96, Try.ntmps96
      go_wp2_with fail
      go_ret
      exact ⟨rfl, H.out.set HC.out HL.out 35 _ (HG.out _) HOK.out rfl⟩
    · rw [if_neg h1] at hOK ⊢
      have hd : decide (0 < S.left) = false := by simpa using h1
      clear h hc hl g34 g35 hOK h0
      go_enter Try.func96, Try.ntmps96
      go_wp2_with fail
      go_ret
      exact ⟨rfl, Only.refl _ _, H.out⟩

theorem on_any (w : World) (d : Nat) (S : Dk.St) (F : Nat → Prop) (h : DiskAt w d S F) :
    Calls Try.prog 26 #[ptr d 0] w fun e w' => e = .returned (.bool (!S.off)) ∧ w = w' := by
  obtain ⟨lo, hc, hl⟩ := h.cells
  obtain ⟨-, c34, -⟩ := diskC_rest h.ok lo
  have c34 := cells_at hc 34 _ c34
  clear h hc hl
  unfold ptr
  go_enter Try.func26, Try.ntmps26
  go_wp2_with fail
  go_ret
  exact ⟨rfl, rfl⟩
theorem loose_any (w : World) (d : Nat) (S : Dk.St) (F : Nat → Prop) (h : DiskAt w d S F) :
    Calls Try.prog 25 #[ptr d 0] w fun e w' => e = .returned (.int .i64 (S.loose.length : Int)) ∧ w = w' := by
  obtain ⟨lo, hc, vs, hl, -⟩ := h.cells
  obtain ⟨c33, -, -⟩ := diskC_rest h.ok lo
  have c33 := cells_at hc 33 _ c33
  obtain ⟨a, c, rfl⟩ := (Reads.own hl).shape
  have hlen := (Reads.own hl).lenLe
  unfold maxLen at hlen
  clear h hc hl
  unfold ptr
  go_enter Try.func25, Try.ntmps25
  go_wp2_with fail
  go_ret
  exact ⟨rfl, rfl⟩

end Go.Proofs.Ytllecjhfbojgcaa

/-
  More of the disk's calls walked: Left, Read, Power, Sync.
-/
namespace Go.Proofs.Ytllecjhfbojgcaa
open Go.RowKit
set_option maxRecDepth 20000

theorem run_index_files (cs : List Value) (k : Nat) (v : Value) (hk : k < 16) (hv : cs[k]? = some v) (w : World) :
    (Instr.index 89 (.agg cs.toArray) (.int .i64 (k : Int))).run Try.prog w = .ok v w := by
  have h1 : Try.prog.underlying 89 = some (.array 16 9) := Try.underlying89
  have h3 : (sizeOf 9).run Try.prog w = .ok 1 w := by kernel_rfl
  have hc : (0 : Int) ≤ (k : Int) ∧ (k : Int) < ((16 : Nat) : Int) := by omega
  simp [Instr.index, run_underlying h1, asIntOf, hc, h3, part, hv, go_sem, Sem.run_bind]
  omega

def strs (fs : Dk.Files) : List Value := fs.map .string
theorem strs_at (fs : Dk.Files) (i : Nat) (h : i < fs.length) : (strs fs)[i]? = some (.string (Dk.at' fs i)) := by
  unfold strs
  rw [List.getElem?_map, Dk.at_get _ _ h]; rfl
theorem range_now {w : World} {d : Nat} {S : Dk.St} {lv : Value} (h : Dk.Ok S) (hc : w.heap[d]? = some (.cells (diskCells S lv) 92)) : w.rangeAt d 1 (strs S.now) := by
  intro j v hv
  have hj : j < 16 := by
    have := (List.getElem?_eq_some_iff.1 hv).1
    unfold strs at this
    rw [List.length_map, h.nowL] at this
    exact this
  rw [strs_at _ _ (by rw [h.nowL]; exact hj)] at hv
  cases hv
  exact cells_at hc _ _ (by simpa [diskCells] using diskL_now h lv j hj)

theorem total_take (fs : Dk.Files) (k : Nat) (h : k < fs.length) : Dk.total (fs.take (k + 1)) = Dk.total (fs.take k) + (Dk.at' fs k).size := by
  induction fs generalizing k with
  | nil => simp at h
  | cons x fs ih =>
    cases k with
    | zero => simp [Dk.total, Dk.at']
    | succ k =>
      have := ih k (by simpa using h)
      simp only [Dk.total, Dk.at', List.take_succ_cons, List.map_cons, List.foldr_cons, List.getD_cons_succ] at this ⊢
      omega
theorem total_take_le (fs : Dk.Files) (k : Nat) : Dk.total (fs.take k) ≤ Dk.total fs := by
  induction fs generalizing k with
  | nil => simp
  | cons x fs ih =>
    cases k with
    | zero => simp [Dk.total]
    | succ k =>
      have := ih k
      simp only [Dk.total, List.take_succ_cons, List.map_cons, List.foldr_cons] at this ⊢
      omega

theorem info_files (l : List Value) (h : l.length = 16) : (Try.prog.info? 89).map (·.size) = some l.length := by rw [h]; kernel_rfl
theorem left_nil (w : World) : Calls Try.prog 89 #[.pointer none] w fun e w' => e = .returned (.int .i64 0) ∧ w = w' := by
  go_enter Try.func89, Try.ntmps89
  go_wp2_with fail
  go_ret
  exact ⟨rfl, rfl⟩

set_option maxHeartbeats 1000000 in
theorem left_any (w : World) (d : Nat) (S : Dk.St) (F : Nat → Prop) (h : DiskAt w d S F) :
    Calls Try.prog 89 #[ptr d 0] w fun e w' => e = .returned (.int .i64 (Dk.leftOf S)) ∧ w = w' := by
  obtain ⟨lo, hc, hl⟩ := h.cells
  have c0 := cells_at hc 0 (.int .i64 (S.room : Int)) (by simpa [diskCells] using diskL_room S lo)
  have hrg := Lib.hid (range_now h.ok hc)
  have hinfo := Lib.hid (info_files (strs S.now) (by unfold strs; rw [List.length_map, h.ok.nowL]))
  have HT := Lib.hid h.ok.total
  have HN := Lib.hid h.ok.nowL
  have hroom := h.ok.room
  clear h hc hl
  unfold ptr
  go_enter Try.func89, Try.ntmps89
  go_wp2_with (refine wpList_load_mid rfl 89 _ rfl d 1 rfl (strs S.now) _ hrg.out Try.underlying89 rfl hinfo.out ?_)
  go_loop [3, 16] (fun n i => ∃ k : Nat, k ≤ 16 ∧ i = .int .i64 k ∧ n = .int .i64 ((S.room : Int) - (Dk.total (S.now.take k) : Int))) (fun _ i => 16 - (intOf i).toNat)
  case atStart => exact ⟨0, Nat.zero_le _, rfl, by simp [Dk.total]⟩
  case round =>
    obtain ⟨k, hk, rfl, rfl⟩ := hrel
    have hle := total_take_le S.now k
    have ht := HT.out
    by_cases hlt : k < 16
    · have HS := Lib.hid (total_take S.now k (by rw [HN.out]; exact hlt))
      have hix := fun W => run_index_files (strs S.now) k (.string (Dk.at' S.now k)) hlt (strs_at _ _ (by rw [HN.out]; exact hlt)) W
      have hsz := Dk.at_le S.now k
      obtain ⟨T, hT⟩ : ∃ T, Dk.total (S.now.take k) = T := ⟨_, rfl⟩
      obtain ⟨sv, hz⟩ : ∃ sv, Dk.at' S.now k = sv := ⟨_, rfl⟩
      rw [hT] at hle ⊢
      rw [hz] at hsz hix
      have HTT := Lib.hid hT
      have HZ := Lib.hid hz
      clear hT hz
      have hz5 : sv.size ≤ 4194304 := by omega
      have hr0 : (0 : Int) ≤ (S.room : Int) - (T : Int) := by omega
      have hr1 : (S.room : Int) - (T : Int) ≤ 4194304 := by omega
      obtain ⟨y, hy⟩ : ∃ y, (S.room : Int) - (T : Int) = y := ⟨_, rfl⟩
      rw [hy] at hr0 hr1 ⊢
      have HY := Lib.hid hy
      clear hy hle ht hsz
      go_wp2_with fail
      go_round
      case rel => exact ⟨k + 1, by omega, by go_num, by rw [HS.out, HTT.out, HZ.out, ← HY.out]; go_num⟩
      case measure => simp [intOf]; omega
    · obtain rfl : k = 16 := by omega
      go_wp2_with fail
      go_ret
      exact ⟨ret_int (by unfold Dk.leftOf; rw [List.take_of_length_le (by rw [HN.out]; exact Nat.le_refl _)]), rfl⟩

end Go.Proofs.Ytllecjhfbojgcaa

/-
  More of the disk's calls walked: Read, Power, Sync.
-/
namespace Go.Proofs.Ytllecjhfbojgcaa
open Go.RowKit
set_option maxRecDepth 20000

def puts (l : List Value) (o : Nat) : List Value → List Value
  | [] => l
  | v :: r => puts (l.set o v) (o + 1) r
theorem puts_mid (vs : List Value) : ∀ (a m c : List Value), vs.length = m.length → puts (a ++ (m ++ c)) a.length vs = a ++ (vs ++ c) := by
  induction vs with
  | nil => intro a m c h; obtain rfl : m = [] := List.eq_nil_of_length_eq_zero h.symm; rfl
  | cons v r ih =>
    intro a m c h
    cases m with
    | nil => simp at h
    | cons x m =>
      have h' : r.length = m.length := by simpa using h
      have e : (a ++ (x :: m ++ c)).set a.length v = (a ++ [v]) ++ (m ++ c) := by simp
      have := ih (a ++ [v]) m c h'
      simp only [List.length_append, List.length_cons, List.length_nil, Nat.zero_add] at this
      show puts ((a ++ (x :: m ++ c)).set a.length v) (a.length + 1) r = _
      rw [e, this]
      simp
theorem heap_setCells {b : Nat} {T : TypeId} : ∀ (vs : List Value) (o : Nat) (w : World) (l : List Value), w.heap[b]? = some (.cells l.toArray T) → (w.setCells b o vs).heap[b]? = some (.cells (puts l o vs).toArray T) := by
  intro vs
  induction vs with
  | nil => intro o w l h; exact h
  | cons v r ih =>
    intro o w l h
    refine ih (o + 1) _ (l.set o v) ?_
    rw [cells_set h, List.setIfInBounds_toArray]
theorem Only.setCells {S : Nat → Prop} (b : Nat) (h : S b) : ∀ (vs : List Value) (o : Nat) (w : World), Only S w (w.setCells b o vs) := by
  intro vs
  induction vs with
  | nil => intro o w; exact Only.refl _ _
  | cons v r ih => intro o w; exact (Only.setCell S w ⟨b, o, none⟩ v h).trans (ih (o + 1) _)
theorem strs_len (fs : Dk.Files) : (strs fs).length = fs.length := by simp [strs]
theorem diskL_parts (S : Dk.St) (lv : Value) : diskL S lv = [Value.int .i64 (S.room : Int)] ++ (strs S.now ++ (strs S.sure ++ [lv, .bool S.off, .int .i64 S.left])) := rfl
theorem puts_now {S : Dk.St} (hn : S.now.length = 16) (lv : Value) (fs : Dk.Files) (hf : fs.length = 16) : puts (diskL S lv) 1 (strs fs) = diskL { S with now := fs } lv := by
  have := puts_mid (strs fs) [Value.int .i64 (S.room : Int)] (strs S.now) (strs S.sure ++ [lv, .bool S.off, .int .i64 S.left]) (by rw [strs_len, strs_len, hn, hf])
  rw [diskL_parts, diskL_parts]
  exact this
theorem puts_sure {S : Dk.St} (hn : S.now.length = 16) (hs : S.sure.length = 16) (lv : Value) (fs : Dk.Files) (hf : fs.length = 16) : puts (diskL S lv) 17 (strs fs) = diskL { S with sure := fs } lv := by
  have := puts_mid (strs fs) ([Value.int .i64 (S.room : Int)] ++ strs S.now) (strs S.sure) [lv, .bool S.off, .int .i64 S.left] (by rw [strs_len, strs_len, hs, hf])
  rw [show ([Value.int .i64 (S.room : Int)] ++ strs S.now).length = 17 by rw [List.length_append, strs_len, hn]; rfl] at this
  rw [diskL_parts, diskL_parts]
  rw [List.append_assoc] at this
  simpa using this
theorem there_of {w : World} {d : Nat} {c : Array Value} {T : TypeId} (hc : w.heap[d]? = some (.cells c T)) (o n : Nat) (h : o + n ≤ c.size) : w.there d o n := fun j hj => by
  refine ⟨?_, cells_free hc _⟩
  rw [cells_at hc (o + j) _ (by rw [Array.getElem?_eq_getElem (by omega)])]
  rfl
theorem strs_one (fs : Dk.Files) : (strs fs).toArray.all (·.oneCell') = true := all_oneCell_toArray (fun v hv => by
  unfold strs at hv
  obtain ⟨s, _, rfl⟩ := List.mem_map.1 hv
  rfl)
theorem info_files' (l : List Value) (h : l.length = 16) : (Try.prog.info? 89).map (·.size) = some l.toArray.size := by
  rw [List.size_toArray]; exact info_files l h

/-- The disk's own block written anew, without loose changes. -/
theorem DiskAt.anew {w w' : World} {d : Nat} {S S' : Dk.St} {F : Nat → Prop} (h : DiskAt w d S F) (ho : w.heap.size ≤ w'.heap.size) (hc : w'.heap[d]? = some (.cells (diskCells S' (.slice none 0 0)) 92)) (hok : Dk.Ok S') (hl : S'.loose = []) : DiskAt w' d S' F :=
  ⟨hok, h.mem, fun k hk => Nat.lt_of_lt_of_le (h.lt k hk) ho, _, hc, by rw [hl]; exact LooseAt.nil _ _⟩

theorem lit_ints (w : World) (c : Array Value) (l : List Int) (n : Nat) (hn : n = w.heap.size) (hc : c.toList = ints l) (hl : l.length ≤ 5) : Reads (w.alloc (.cells c 3)) (.slice (some ⟨n, 0, none⟩) l.length l.length) l.length (ints l) := by
  have := Reads.lit w c 3 l.length n hn (by unfold maxLen; omega)
  rw [hc] at this
  exact this

theorem read_nil (f : Int) (w : World) : Calls Try.prog 61 #[.pointer none, .int .i64 f] w fun e w' => e = .returned (.tuple #[.string ByteArray.empty, .int .i64 1]) ∧ Below w.heap.size w w' := by
  go_enter Try.func61, Try.ntmps61
  go_wp2_with fail
  refine (ready_nil _ _).mono ?_
  rintro e w' ⟨rfl, rfl⟩
  go_wp2_with fail
  go_ret2
  exact ⟨rfl, bel_alloc _ _⟩

theorem read_any (w : World) (d : Nat) (S : Dk.St) (F : Nat → Prop) (h : DiskAt w d S F) (f : Int) :
    Calls Try.prog 61 #[ptr d 0, .int .i64 f] w fun e w' => e = .returned (.tuple #[.string (Dk.read S f).1, .int .i64 (Dk.read S f).2]) ∧ Below w.heap.size w w' := by
  have H := Lib.hid h
  have hA := h.below (bel_alloc w (.cells #[.int .i64 f] 3))
  have HA := Lib.hid hA
  unfold Dk.read
  by_cases hr : Dk.ready S [f] = 0
  · have hr1 := Dk.ready_one hr
    obtain ⟨n, rfl⟩ : ∃ n : Nat, f = n := ⟨f.toNat, by omega⟩
    have hn : n < 16 := by omega
    obtain ⟨lo, hc, -⟩ := hA.cells
    have cn := cells_at hc (1 + n) (.string (Dk.at' S.now n)) (by simpa [diskCells] using diskL_now h.ok lo n hn)
    have HR := Lib.hid hr
    rw [if_neg (by simp [hr])]
    clear h hA hr hc hr1
    unfold ptr
    go_enter Try.func61, Try.ntmps61
    go_wp2_with fail
    refine (ready_any [(n : Int)] _ _ d S F HA.out (lit_ints w #[.int .i64 (n : Int)] [(n : Int)] _ rfl rfl (by simp))).mono ?_
    rintro e w' ⟨rfl, rfl⟩
    rw [HR.out]
    go_wp2_with fail
    go_ret2
    exact ⟨rfl, bel_alloc _ _⟩
  · rw [if_pos (by simpa using hr)]
    obtain ⟨x, hx⟩ : ∃ x, Dk.ready S [f] = x := ⟨_, rfl⟩
    rw [hx] at hr ⊢
    have hne : (x != 0) = true := by simpa using hr
    have HX := Lib.hid hx
    clear h hA hr hx
    unfold ptr
    go_enter Try.func61, Try.ntmps61
    go_wp2_with fail
    refine (ready_any [f] _ _ d S F HA.out (lit_ints w #[.int .i64 f] [f] _ rfl rfl (by simp))).mono ?_
    rintro e w' ⟨rfl, rfl⟩
    rw [HX.out]
    go_wp2_with fail
    go_ret2
    exact ⟨rfl, bel_alloc _ _⟩

theorem power_nil (n : Int) (w : World) : Calls Try.prog 19 #[.pointer none, .int .i64 n] w fun e w' => e = .returned (.int .i64 1) ∧ w = w' := by
  go_enter Try.func19, Try.ntmps19
  go_wp2_with fail
  refine (ready_nil _ _).mono ?_
  rintro e w' ⟨rfl, rfl⟩
  go_wp2_with fail
  go_ret
  exact ⟨rfl, rfl⟩
theorem sync_nil (w : World) : Calls Try.prog 59 #[.pointer none] w fun e w' => e = .returned (.int .i64 1) ∧ w = w' := by
  go_enter Try.func59, Try.ntmps59
  go_wp2_with fail
  refine (ready_nil _ _).mono ?_
  rintro e w' ⟨rfl, rfl⟩
  go_wp2_with fail
  go_ret
  exact ⟨rfl, rfl⟩

theorem power_any (w : World) (d : Nat) (S : Dk.St) (F : Nat → Prop) (h : DiskAt w d S F) (n : Int) (hn : n ≤ 9223372036854775807) :
    Calls Try.prog 19 #[ptr d 0, .int .i64 n] w fun e w' => e = .returned (.int .i64 (Dk.power S n).1) ∧ Only (fun k => k = d) w w' ∧ DiskAt w' d (Dk.power S n).2 F := by
  have hOK := Dk.power_ok h.ok n hn
  have H := Lib.hid h
  obtain ⟨lo, hc, hl⟩ := h.cells
  obtain ⟨-, c34, c35⟩ := diskC_rest h.ok lo
  have c35 := cells_at hc 35 _ c35
  have f35 := cells_free hc 35
  obtain ⟨-, -, g35⟩ := diskC_set h.ok.nowL h.ok.sureL lo
  have HC := Lib.hid hc
  have HL := Lib.hid hl
  have HG := Lib.hid g35
  clear h hc hl g35 c34
  have hready : Dk.ready S [] = if S.off = true then 50 else 0 := rfl
  unfold Dk.power at hOK ⊢
  by_cases ho : S.off = true
  · rw [if_pos ho] at hready hOK ⊢
    have HR := Lib.hid hready
    clear hready hOK ho hn
    unfold ptr
    go_enter Try.func19, Try.ntmps19
    go_wp2_with fail
    refine (ready_any [] _ _ d S F H.out (Reads.nil _)).mono ?_
    rintro e w' ⟨rfl, rfl⟩
    rw [HR.out]
    go_wp2_with fail
    go_ret
    exact ⟨rfl, Only.refl _ _, H.out⟩
  · rw [if_neg ho] at hready hOK ⊢
    have HR := Lib.hid hready
    clear hready ho
    by_cases h0 : n < 0
    · rw [if_pos h0]
      have hd : decide (n < 0) = true := by simpa using h0
      clear h0 hOK
      unfold ptr
      go_enter Try.func19, Try.ntmps19
      go_wp2_with fail
      refine (ready_any [] _ _ d S F H.out (Reads.nil _)).mono ?_
      rintro e w' ⟨rfl, rfl⟩
      rw [HR.out]
      go_wp2_with fail
      go_ret
      exact ⟨rfl, Only.refl _ _, H.out⟩
    · rw [if_neg h0] at hOK ⊢
      have hd : decide (n < 0) = false := by simpa using h0
      have HOK := Lib.hid hOK
      clear h0 hOK
      unfold ptr
      go_enter Try.func19, Try.ntmps19
      go_wp2_with fail
      refine (ready_any [] _ _ d S F H.out (Reads.nil _)).mono ?_
      rintro e w' ⟨rfl, rfl⟩
      rw [HR.out]
      go_wp2_with fail
      go_ret
      exact ⟨rfl, H.out.set HC.out HL.out 35 _ (HG.out n) HOK.out rfl⟩

set_option maxHeartbeats 1000000 in
theorem sync_any (w : World) (d : Nat) (S : Dk.St) (F : Nat → Prop) (h : DiskAt w d S F) :
    Calls Try.prog 59 #[ptr d 0] w fun e w' => e = .returned (.int .i64 (Dk.sync S).1) ∧ Only (fun k => k = d) w w' ∧ DiskAt w' d (Dk.sync S).2 F := by
  have hOK := Dk.sync_ok h.ok
  have H := Lib.hid h
  clear h
  have hready : Dk.ready S [] = if S.off = true then 50 else 0 := rfl
  unfold Dk.sync at hOK ⊢
  by_cases ho : S.off = true
  · rw [if_pos ho] at hready hOK ⊢
    have HR := Lib.hid hready
    clear hready hOK ho
    unfold ptr
    go_enter Try.func59, Try.ntmps59
    go_wp2_with fail
    refine (ready_any [] _ _ d S F H.out (Reads.nil _)).mono ?_
    rintro e w' ⟨rfl, rfl⟩
    rw [HR.out]
    go_wp2_with fail
    go_ret
    exact ⟨rfl, Only.refl _ _, H.out⟩
  · rw [if_neg ho] at hready hOK ⊢
    have HR := Lib.hid hready
    have HO := Lib.hid ho
    clear hready ho
    by_cases h0 : S.left = 0
    · rw [if_pos h0]
      have hop : Dk.op S = (50, { S with off := true }) := if_pos h0
      have HOP := Lib.hid hop
      clear h0 hOK hop
      unfold ptr
      go_enter Try.func59, Try.ntmps59
      go_wp2_with fail
      refine (ready_any [] _ _ d S F H.out (Reads.nil _)).mono ?_
      rintro e w' ⟨rfl, rfl⟩
      rw [HR.out]
      go_wp2_with fail
      refine (op_any _ d S F H.out).mono ?_
      rintro e w1 ⟨rfl, ho1, hD1⟩
      rw [HOP.out] at hD1 ⊢
      have HO1 := Lib.hid ho1
      have HD1 := Lib.hid hD1
      clear ho1 hD1
      go_wp2_with fail
      go_ret
      exact ⟨rfl, HO1.out, HD1.out⟩
    · rw [if_neg h0] at hOK ⊢
      have hop : Dk.op S = (0, { S with left := Dk.less S.left }) := by
        unfold Dk.op
        rw [if_neg h0]
        unfold Dk.less
        split <;> rfl
      have HOP := Lib.hid hop
      have HOK := Lib.hid hOK
      clear h0 hOK hop
      unfold ptr
      go_enter Try.func59, Try.ntmps59
      go_wp2_with fail
      refine (ready_any [] _ _ d S F H.out (Reads.nil _)).mono ?_
      rintro e w' ⟨rfl, rfl⟩
      rw [HR.out]
      go_wp2_with fail
      refine (op_any _ d S F H.out).mono ?_
      rintro e w1 ⟨rfl, ho1, hD1⟩
      rw [HOP.out] at hD1 ⊢
      obtain ⟨lo, hc1, hl1⟩ := hD1.cells
      have hnL := hD1.ok.nowL
      have hsL := hD1.ok.sureL
      have hrg := Lib.hid (range_now hD1.ok hc1)
      have hin := Lib.hid (info_files (strs S.now) (by rw [strs_len]; exact hnL))
      have hin' := Lib.hid (info_files' (strs S.now) (by rw [strs_len]; exact hnL))
      have hth := Lib.hid (there_of hc1 17 (strs S.now).toArray.size (by rw [List.size_toArray, strs_len]; unfold diskCells; rw [List.size_toArray, diskL_len hD1.ok]; simp at hnL; omega))
      have hone := Lib.hid (strs_one S.now)
      have HO1 := Lib.hid ho1
      have HD1 := Lib.hid hD1
      have HC1 := Lib.hid hc1
      have HNL := Lib.hid hnL
      have HSL := Lib.hid hsL
      clear ho1 hD1 hc1 hl1 hnL hsL
      obtain ⟨W, hW⟩ : ∃ W, w1.setCells d 17 (strs S.now).toArray.toList = W := ⟨_, rfl⟩
      have hcW : W.heap[d]? = some (.cells (diskCells { S with sure := S.now, left := Dk.less S.left } lo) 92) := by
        rw [← hW, heap_setCells _ _ _ _ HC1.out, puts_sure HNL.out HSL.out lo S.now HNL.out]
        rfl
      have hoW : Only (fun k => k = d) w W := by rw [← hW]; exact HO1.out.trans (Only.setCells (S := fun k => k = d) d rfl _ _ _)
      have hok2 : Dk.Ok { S with sure := S.now, loose := [], left := Dk.less S.left } := HOK.out
      have q33 := cells_at hcW 33 lo (by show (diskL { S with sure := S.now, loose := [], left := Dk.less S.left } lo).toArray[33]? = _; simpa using diskL_rest hok2 lo 0)
      have r33 := cells_free hcW 33
      have HW := Lib.hid hW
      have HCW := Lib.hid hcW
      have HOW := Lib.hid hoW
      clear hW hcW hoW
      go_wp2_with (first
        | (refine wpList_load_mid rfl 89 _ rfl d 1 rfl (strs S.now) _ hrg.out Try.underlying89 rfl hin.out ?_)
        | (refine wpList_store_mid rfl 89 _ _ rfl d 17 (strs S.now).toArray rfl rfl hth.out hin'.out hone.out ?_; rw [HW.out]))
      go_ret
      refine ⟨rfl, HOW.out.trans (Only.setCell (fun k => k = d) W ⟨d, 33, none⟩ _ rfl), ?_⟩
      refine H.out.anew (by simpa using HOW.out.size) ?_ HOK.out rfl
      rw [cells_set HCW.out, (diskC_set (S := { S with sure := S.now, left := Dk.less S.left }) HNL.out HNL.out lo).1]
      rfl

end Go.Proofs.Ytllecjhfbojgcaa
