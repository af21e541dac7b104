/-
  Crash walked.
-/
import Derived.Test.YtllecjhfbojgcaaDiskAppend
namespace Go.Proofs.Ytllecjhfbojgcaa
open Go.RowKit
set_option maxRecDepth 20000

/-- Behind i changes of a crash. -/
structure CrashAt (w wr : World) (d : Nat) (S : Dk.St) (F : Nat → Prop) (lv : Value) (i : Nat) : Prop where
  cell : wr.heap[d]? = some (.cells (diskCells { S with sure := Dk.runs S.sure (S.loose.take i) } lv) 92)
  loose : LooseAt wr F S.loose lv
  on : Only F w wr

theorem crash_nil (a b : Int) (w : World) : Calls Try.prog 20 #[.pointer none, .int .i64 a, .int .i64 b] w fun e w' => e = .returned (.tuple #[]) ∧ w = w' := by
  go_enter Try.func20, Try.ntmps20
  go_wp2_with fail
  exact bodyPost_ret (results_none rfl _ _ _) rfl ⟨rfl, rfl⟩

theorem info_change2 (x y : Value) : (Try.prog.info? 113).map (·.size) = some [x, y].length := by kernel_rfl

theorem neq_part (a b : Nat) (w : World) : (binOp .neq 111 (.func (.func 90) #[] #[.pointer (some ⟨a, 0, none⟩), .pointer (some ⟨b, 0, none⟩)]) .nilFunc).run Try.prog w = .ok (.bool true) w := by kernel_rfl
theorem neq_none (w : World) : (binOp .neq 111 .nilFunc .nilFunc).run Try.prog w = .ok (.bool false) w := by kernel_rfl
/-- Of an Append its first bytes, on the sure files. -/
theorem crash_part {w wr : World} {d : Nat} {S : Dk.St} {F : Nat → Prop} {lv : Value} {i f xa xb : Nat} {s : ByteArray} {b : Int} (h : DiskAt w d S F) (hC : CrashAt w wr d S F lv i) (hci : S.loose[i]? = some (.app f s)) {fs : Dk.Files} (hfs : Dk.runs S.sure (S.loose.take i) = fs)
    (ha : wr.heap[xa]? = some (.cells #[.int .i64 (f : Int)] 3)) (hb : wr.heap[xb]? = some (.cells #[.string s] 9)) :
    Calls Try.prog 90 #[ptr d 17, .int .i64 b, ptr xa 0, ptr xb 0] wr.drew fun e WW => e = .returned (.tuple #[]) ∧
      (Dk.part f s (Dk.clip b s.size) fs).length = 16 ∧ WW.heap[d]? = some (.cells (diskCells { S with sure := Dk.part f s (Dk.clip b s.size) fs } lv) 92) ∧ Only F w WW := by
  have hfl : fs.length = 16 := by rw [← hfs, Dk.runs_len, h.ok.sureL]
  have hcw := hC.cell
  rw [hfs] at hcw
  obtain ⟨hok, htot⟩ := h.ok.chain.at i _ hci
  rw [hfs] at hok htot
  have hok : f < 16 := hok
  obtain ⟨h1, h2⟩ := size_app (by rw [hfl]; exact hok) htot
  have hroom := h.ok.room
  refine (part_any wr.drew d 17 fs (sure_files (w := wr.drew) hcw h.ok.nowL hfl) f hok s xa xb b ha hb (by omega) (by omega)).mono fun e WW ⟨h3, h4⟩ => ⟨h3, by rw [Dk.part_len, hfl], ?_, ?_⟩
  · rw [h4]
    exact set_sure (w := wr.drew) (S := { S with sure := fs }) hcw h.ok.nowL hfl f hok _
  · rw [h4]
    have := (hC.on.drewN 1).trans (Only.setCell F wr.drew ⟨d, 17 + f, none⟩ (.string (Dk.at' fs f ++ s.extract 0 (Dk.clip b s.size))) h.mem)
    exact this.drewN 1

/-- The last region's facts. -/
theorem crash_facts {W V : World} {d : Nat} {S : Dk.St} {lv : Value} {fs : Dk.Files} (hn : S.now.length = 16) (hl : fs.length = 16) (hc : W.heap[d]? = some (.cells (diskCells { S with sure := fs } lv) 92)) (hV : W.setCells d 1 (strs fs).toArray.toList = V) :
    W.rangeAt d 17 (strs fs) ∧ W.there d 1 (strs fs).toArray.size ∧ V.heap[d]? = some (.cells (diskCells { S with sure := fs, now := fs } lv) 92) ∧ Only (fun k => k = d) W V ∧
      V.cell? ⟨d, 33, none⟩ = some lv ∧ V.cell? ⟨d, 34, none⟩ = some (.bool S.off) ∧ V.cell? ⟨d, 35, none⟩ = some (.int .i64 S.left) ∧ V.frozen? ⟨d, 33, none⟩ = false ∧ V.frozen? ⟨d, 34, none⟩ = false ∧ V.frozen? ⟨d, 35, none⟩ = false := by
  have hcV : V.heap[d]? = some (.cells (diskCells { S with sure := fs, now := fs } lv) 92) := by
    rw [← hV, heap_setCells _ _ _ _ hc, puts_now (S := { S with sure := fs }) hn lv fs hl]
    rfl
  have hr : (diskCells { S with sure := fs, now := fs } lv)[33]? = some lv ∧ (diskCells { S with sure := fs, now := fs } lv)[34]? = some (.bool S.off) ∧ (diskCells { S with sure := fs, now := fs } lv)[35]? = some (.int .i64 S.left) := by
    refine ⟨?_, ?_, ?_⟩
    all_goals
      show (diskL _ lv).toArray[_]? = _
      rw [List.getElem?_toArray]
      simp [diskL, hl]
  refine ⟨fun j v hv => ?_, there_of hc 1 _ ?_, hcV, by rw [← hV]; exact Only.setCells (S := fun k => k = d) d rfl _ _ _, cells_at hcV _ _ hr.1, cells_at hcV _ _ hr.2.1, cells_at hcV _ _ hr.2.2, cells_free hcV _, cells_free hcV _, cells_free hcV _⟩
  · have hj : j < 16 := by
      have := (List.getElem?_eq_some_iff.1 hv).1
      rw [strs_len, hl] at this
      exact this
    rw [strs_at _ _ (by rw [hl]; exact hj)] at hv
    cases hv
    exact (sure_files hc hn hl j hj).1
  · rw [List.size_toArray, strs_len, hl]
    unfold diskCells
    rw [List.size_toArray]
    simp [diskL, hn, hl]
theorem crash_fin {w W V : World} {d : Nat} {S : Dk.St} {F : Nat → Prop} {lv : Value} {fs : Dk.Files} {a b : Int} (h : DiskAt w d S F) (hon : Only F w W) (hl : fs.length = 16) (hc : V.heap[d]? = some (.cells (diskCells { S with sure := fs, now := fs } lv) 92)) (hV : Only (fun k => k = d) W V) (hk : Dk.kept S a b = fs) :
    Only F w (((V.setCell ⟨d, 33, none⟩ (.slice none 0 0)).setCell ⟨d, 34, none⟩ (.bool false)).setCell ⟨d, 35, none⟩ (.int .i64 (-1))) ∧ DiskAt (((V.setCell ⟨d, 33, none⟩ (.slice none 0 0)).setCell ⟨d, 34, none⟩ (.bool false)).setCell ⟨d, 35, none⟩ (.int .i64 (-1))) d (Dk.crash S a b) F := by
  have ho : Only F w (((V.setCell ⟨d, 33, none⟩ (.slice none 0 0)).setCell ⟨d, 34, none⟩ (.bool false)).setCell ⟨d, 35, none⟩ (.int .i64 (-1))) :=
    (((hon.trans (hV.mono (fun i e => e ▸ h.mem))).trans (Only.setCell F V ⟨d, 33, none⟩ _ h.mem)).trans (Only.setCell F _ ⟨d, 34, none⟩ _ h.mem)).trans (Only.setCell F _ ⟨d, 35, none⟩ _ h.mem)
  refine ⟨ho, h.anew ho.size ?_ (Dk.crash_ok h.ok a b) rfl⟩
  have e1 := (diskC_set (S := { S with sure := fs, now := fs }) hl hl lv).1 (.slice none 0 0)
  have e2 := (diskC_set (S := { S with sure := fs, now := fs }) hl hl (.slice none 0 0)).2.1 false
  have e3 := (diskC_set (S := { S with sure := fs, now := fs, off := false }) hl hl (.slice none 0 0)).2.2 (-1)
  rw [cells_set (cells_set (cells_set hc 33 _) 34 _) 35 _, e1, e2, e3]
  unfold Dk.crash
  rw [hk]
  rfl
theorem info_files2 (fs : Dk.Files) (h : fs.length = 16) : (Try.prog.info? 89).map (·.size) = some (strs fs).length ∧ (Try.prog.info? 89).map (·.size) = some (strs fs).toArray.size := ⟨info_files _ (by rw [strs_len]; exact h), info_files' _ (by rw [strs_len]; exact h)⟩

theorem crash_step {w wr U : World} {d : Nat} {S : Dk.St} {F : Nat → Prop} {lv x y : Value} {i : Nat} {c : Dk.Ch} (h : DiskAt w d S F) (hC : CrashAt w wr d S F lv i) (hci : S.loose[i]? = some c) (hch : ChAt wr F c x y) (hU : wr.alloc (.cells #[x, y] 113) = U) :
    ∃ k c1 c2, x = .func (.func k) #[] #[c1, c2] ∧ (∀ args w, (callFunc k args).run Try.prog w = .ok (.enter k args) w) ∧
      Calls Try.prog k #[ptr d 17, c1, c2] U.drew (fun e w' => e = .returned (.tuple #[]) ∧ CrashAt w w' d S F lv (i + 1)) := by
  have hbU : Below wr.heap.size wr U := by rw [← hU]; exact bel_alloc _ _
  have hlt : ∀ k, F k → k < wr.heap.size := fun k hk => Nat.lt_of_lt_of_le (h.lt k hk) hC.on.size
  have hcU : U.heap[d]? = some (.cells (diskCells { S with sure := Dk.runs S.sure (S.loose.take i) } lv) 92) := (hbU.block d (hlt d h.mem)).trans hC.cell
  have hloU : LooseAt U F S.loose lv := hC.loose.kept (fun k hk => hbU.block k (hlt k hk)) (fun _ hk => hk)
  have hchU : ChAt U F c x y := hch.kept (fun k hk => hbU.block k (hlt k hk)) (fun _ hk => hk)
  obtain ⟨hok, htot⟩ := h.ok.chain.at i c hci
  obtain ⟨k, c1, c2, hx, hent, hcall⟩ := does_sure (w := U.drew) hcU h.ok.nowL (by show (Dk.runs S.sure (S.loose.take i)).length = 16; rw [Dk.runs_len, h.ok.sureL]) (hchU.kept (w' := U.drew) (fun _ _ => rfl) (fun _ hk => hk)) hok (by have := h.ok.room; exact Nat.le_trans htot this)
  refine ⟨k, c1, c2, hx, hent, hcall.mono ?_⟩
  rintro e w' ⟨he, hon, hcell, hsz⟩
  have hon' : Only (fun k => k = d) U w' := ⟨hon.os, hon.tape, hon.output, hon.size, hon.block⟩
  refine ⟨he, ?_, hloU.turn hcU (fun k hk hne => hon'.block k hk hne), (hC.on.trans (Only.below hbU)).trans (hon'.mono (fun i e => e ▸ h.mem))⟩
  rw [hcell, Dk.runs_take_succ S.sure S.loose i c hci]

set_option maxHeartbeats 8000000 in
set_option maxRecDepth 100000 in
theorem crash_any (w : World) (d : Nat) (S : Dk.St) (F : Nat → Prop) (h : DiskAt w d S F) (a b : Int) :
    Calls Try.prog 20 #[ptr d 0, .int .i64 a, .int .i64 b] w fun e w' => e = .returned (.tuple #[]) ∧ Only F w w' ∧ DiskAt w' d (Dk.crash S a b) F := by
  obtain ⟨lv, hc, hl⟩ := h.cells
  have hon0 : CrashAt w w d S F lv 0 := ⟨hc, hl, Only.refl _ _⟩
  have hl' := hl
  obtain ⟨vs, h1, -⟩ := hl'
  obtain ⟨la, lc, rfl⟩ := (Reads.own h1).shape
  have hlen := (Reads.own h1).lenLe
  have hcap : S.loose.length ≤ lc := by
    rcases h1.2 with hh | ⟨g', cap, cur, hv, _, _, h3, _⟩
    · rw [hh.2]; exact Nat.zero_le _
    · simp only [Value.slice.injEq] at hv; omega
  unfold maxLen at hlen
  have c33 := cells_at hc 33 _ (diskC_at33 h.ok.nowL h.ok.sureL _)
  obtain ⟨k, hk⟩ : ∃ k, Dk.clip a S.loose.length = k := ⟨_, rfl⟩
  have hkl : k ≤ S.loose.length := by rw [← hk]; exact Dk.clip_le _ _
  have hmn : (if (if (S.loose.length : Int) < a then (S.loose.length : Int) else a) < 0 then (0 : Int) else if (S.loose.length : Int) < a then (S.loose.length : Int) else a) = (k : Int) := by
    rw [← hk]; unfold Dk.clip
    split <;> split at * <;> omega
  have H := Lib.hid h
  have H0 := Lib.hid hon0
  have HK := Lib.hid hk
  clear h hc hl h1 hon0 hk
  unfold ptr
  go_enter Try.func20, Try.ntmps20
  go_wp2_with fail
  all_goals
    clear hmn c33
    go_loopw [26] (fun iv wr => ∃ i : Nat, i ≤ k ∧ iv = .int .i64 (i : Int) ∧ Hid (CrashAt w wr d S F (.slice la S.loose.length lc) i)) (fun iv _ => k - (intOf iv).toNat)
    case atStart => exact ⟨0, Nat.zero_le _, rfl, H0⟩
    case round =>
      obtain ⟨i, hi, rfl, HC⟩ := hrel
      by_cases hlt : i < k
      · obtain ⟨c, hci⟩ : ∃ c, S.loose[i]? = some c := ⟨S.loose[i]'(by omega), by simp⟩
        obtain ⟨vs', h1, h2, h3, h4⟩ := HC.out.loose
        obtain ⟨⟨x, y⟩, hp, hch⟩ := h4 i c hci
        obtain ⟨p1, p2⟩ := pairs_at vs' i _ hp
        obtain ⟨g, og, cg, hv, -, -, -, hcells⟩ := (Reads.own h1).some (by omega)
        simp only [Value.slice.injEq] at hv
        obtain ⟨rfl, -, rfl⟩ := hv
        have e1 := hcells _ _ p1
        have e2 := hcells _ _ p2
        simp only at e1 e2 hch
        rw [← Nat.add_assoc] at e2
        have hx1 : x.oneCell' = true := hch.one x (by simp)
        have hy1 : y.oneCell' = true := hch.one y (by simp)
        obtain ⟨U, hU⟩ : ∃ U, wr.alloc (.cells #[x, y] 113) = U := ⟨_, rfl⟩
        obtain ⟨kf, c1, c2, rfl, hent, hcall⟩ := crash_step H.out HC.out hci hch hU
        have hstx := fun (a : Addr) (m : Mode) (W : World) => run_store Try.prog W a _ m hx1
        have hsty := fun (a : Addr) (m : Mode) (W : World) => run_store Try.prog W a _ m hy1
        have HU := Lib.hid hU
        have HCALL := Lib.hid hcall
        clear hci h1 h2 h3 h4 hp hch p1 p2 hcells hU hcall hx1 hy1
        go_wp2_with fail
        rw [HU.out]
        have hnew : U.heap[wr.heap.size]? = some (.cells #[.func (.func kf) #[] #[c1, c2], y] 113) := by rw [← HU.out]; exact heap_alloc_new wr _
        have q0 := cells_at hnew 0 _ rfl
        have q1 := cells_at hnew 1 _ rfl
        simp only [List.getElem_toArray, List.getElem_cons_zero, List.getElem_cons_succ] at q0 q1
        clear hnew hstx hsty e1 e2
        refine wp_region_still_tail 5 (by kernel_rfl) (by kernel_rfl) ?_
        simp only [List.take_succ_cons, List.take_zero, List.drop_succ_cons, List.drop_zero]
        change wpStill _ _ U.drew (fun a' => wpList _ _ _ _ a' U.drew) _ _
        repeat still_step
        refine wpStill_nil ?_
        go_wp2_with fail
        refine HCALL.out.mono ?_
        rintro e w2 ⟨rfl, hC2⟩
        have HC2 := Lib.hid hC2
        clear hC2
        go_wp2_with fail
        go_roundw
        case rel => exact ⟨i + 1, by omega, by go_num, HC2⟩
        case measure => simp [intOf]; omega
      · obtain rfl : i = k := by omega
        obtain ⟨fs, hfs⟩ : ∃ fs, Dk.runs S.sure (S.loose.take i) = fs := ⟨_, rfl⟩
        have hcw := HC.out.cell
        rw [hfs] at hcw
        have hfl : fs.length = 16 := by rw [← hfs, Dk.runs_len, H.out.ok.sureL]
        have HN := Lib.hid H.out.ok.nowL
        have w33 := cells_at hcw 33 _ (diskC_at33 (S := { S with sure := fs }) HN.out hfl _)
        by_cases hlt : i < S.loose.length
        · obtain ⟨c, hci⟩ : ∃ c, S.loose[i]? = some c := ⟨S.loose[i]'(by omega), by simp⟩
          obtain ⟨vs', h1, h2, h3, h4⟩ := HC.out.loose
          obtain ⟨⟨x, y⟩, hp, hch⟩ := h4 i c hci
          obtain ⟨p1, p2⟩ := pairs_at vs' i _ hp
          obtain ⟨g, og, cg, hv, -, -, -, hcells⟩ := (Reads.own h1).some (by omega)
          simp only [Value.slice.injEq] at hv
          obtain ⟨rfl, -, rfl⟩ := hv
          have e2 := hcells _ _ p2
          simp only at e2 hch
          rw [← Nat.add_assoc] at e2
          have hd1 : decide ((i : Int) < (S.loose.length : Int)) = true := by simpa using hlt
          have hd2 : decide (i < S.loose.length) = true := by simpa using hlt
          clear h1 h2 h3 h4 hp p1 p2 hcells
          cases hch with
          | app f s xa xb xp ha hb hp fa fb fp =>
            unfold partV ptr at e2
            have hne := neq_part xa xb wr
            have hcall := crash_part (b := b) H.out HC.out hci hfs ha hb
            obtain ⟨ft, hft⟩ : ∃ ft, Dk.part f s (Dk.clip b s.size) fs = ft := ⟨_, rfl⟩
            have hkp : Dk.kept S a b = ft := by
              unfold Dk.kept
              rw [HK.out, hci, hfs]
              exact hft
            rw [hft] at hcall
            unfold ptr at hcall
            have HKP := Lib.hid hkp
            have HCALL := Lib.hid hcall
            clear hkp hcall hfl hcw hfs hkl hi hcap hlen hci ha hb hp hft
            go_wp2_with fail
            refine wp_region_still_tail 12 (by kernel_rfl) (by kernel_rfl) ?_
            simp only [List.take_succ_cons, List.take_zero, List.drop_succ_cons, List.drop_zero]
            change wpStill _ _ wr.drew (fun a' => wpList _ _ _ _ a' wr.drew) _ _
            have hi1 : (i : Int) < (S.loose.length : Int) := by omega
            repeat still_step
            refine wpStill_nil ?_
            go_wp2_with fail
            refine HCALL.out.mono ?_
            rintro e WW ⟨rfl, hfl2, hcw2, hon2⟩
            clear fs HC
            obtain ⟨fs, rfl⟩ : ∃ fs, fs = ft := ⟨_, rfl⟩
            have HFL := Lib.hid hfl2
            have HCW := Lib.hid hcw2
            have HONW := Lib.hid hon2
            clear hfl2 hcw2 hon2 HCALL e2 w33 hne
            obtain ⟨V, hV⟩ : ∃ V, WW.setCells d 1 (strs fs).toArray.toList = V := ⟨_, rfl⟩
            obtain ⟨r1, r2, r3, r4, v33, v34, v35, z33, z34, z35⟩ := crash_facts HN.out HFL.out HCW.out hV
            have HR1 := Lib.hid r1
            have HR2 := Lib.hid r2
            have HR3 := Lib.hid r3
            have HR4 := Lib.hid r4
            have HV := Lib.hid hV
            have HI := Lib.hid (info_files2 fs HFL.out)
            have HONE := Lib.hid (strs_one fs)
            clear hV r1 r2 r3 r4
            go_wp2_with (first
              | (refine wpList_load_mid rfl 89 _ rfl d 17 rfl (strs fs) _ HR1.out Try.underlying89 rfl HI.out.1 ?_)
              | (refine wpList_store_mid rfl 89 _ _ rfl d 1 (strs fs).toArray rfl rfl HR2.out HI.out.2 HONE.out ?_; rw [HV.out]))
            go_end0
            exact ⟨rfl, crash_fin H.out HONW.out HFL.out HR3.out HR4.out HKP.out⟩
          | cut f n xa xb ha hb fa fb =>
            have hkp : Dk.kept S a b = fs := by
              unfold Dk.kept
              rw [HK.out, hci, hfs]
              rfl
            obtain ⟨WW, rfl⟩ : ∃ WW, WW = wr := ⟨_, rfl⟩
            have HKP := Lib.hid hkp
            have HFL := Lib.hid hfl
            have HCW := Lib.hid hcw
            have HONW := Lib.hid HC.out.on
            have hne := neq_none WW
            clear hkp hfl hcw hfs hkl hi hcap hlen hci
            obtain ⟨V, hV⟩ : ∃ V, WW.setCells d 1 (strs fs).toArray.toList = V := ⟨_, rfl⟩
            obtain ⟨r1, r2, r3, r4, v33, v34, v35, z33, z34, z35⟩ := crash_facts HN.out HFL.out HCW.out hV
            have HR1 := Lib.hid r1
            have HR2 := Lib.hid r2
            have HR3 := Lib.hid r3
            have HR4 := Lib.hid r4
            have HV := Lib.hid hV
            have HI := Lib.hid (info_files2 fs HFL.out)
            have HONE := Lib.hid (strs_one fs)
            clear hV r1 r2 r3 r4
            go_wp2_with (first
              | (refine wpList_load_mid rfl 89 _ rfl d 17 rfl (strs fs) _ HR1.out Try.underlying89 rfl HI.out.1 ?_)
              | (refine wpList_store_mid rfl 89 _ _ rfl d 1 (strs fs).toArray rfl rfl HR2.out HI.out.2 HONE.out ?_; rw [HV.out]))
            go_end0
            exact ⟨rfl, crash_fin H.out HONW.out HFL.out HR3.out HR4.out HKP.out⟩
          | mov f n xa xb ha hb fa fb =>
            have hkp : Dk.kept S a b = fs := by
              unfold Dk.kept
              rw [HK.out, hci, hfs]
              rfl
            obtain ⟨WW, rfl⟩ : ∃ WW, WW = wr := ⟨_, rfl⟩
            have HKP := Lib.hid hkp
            have HFL := Lib.hid hfl
            have HCW := Lib.hid hcw
            have HONW := Lib.hid HC.out.on
            have hne := neq_none WW
            clear hkp hfl hcw hfs hkl hi hcap hlen hci
            obtain ⟨V, hV⟩ : ∃ V, WW.setCells d 1 (strs fs).toArray.toList = V := ⟨_, rfl⟩
            obtain ⟨r1, r2, r3, r4, v33, v34, v35, z33, z34, z35⟩ := crash_facts HN.out HFL.out HCW.out hV
            have HR1 := Lib.hid r1
            have HR2 := Lib.hid r2
            have HR3 := Lib.hid r3
            have HR4 := Lib.hid r4
            have HV := Lib.hid hV
            have HI := Lib.hid (info_files2 fs HFL.out)
            have HONE := Lib.hid (strs_one fs)
            clear hV r1 r2 r3 r4
            go_wp2_with (first
              | (refine wpList_load_mid rfl 89 _ rfl d 17 rfl (strs fs) _ HR1.out Try.underlying89 rfl HI.out.1 ?_)
              | (refine wpList_store_mid rfl 89 _ _ rfl d 1 (strs fs).toArray rfl rfl HR2.out HI.out.2 HONE.out ?_; rw [HV.out]))
            go_end0
            exact ⟨rfl, crash_fin H.out HONW.out HFL.out HR3.out HR4.out HKP.out⟩
        · obtain rfl : i = S.loose.length := by omega
          have hd1 : decide ((S.loose.length : Int) < (S.loose.length : Int)) = false := by simp
          have hd2 : decide (S.loose.length < S.loose.length) = false := by simp
          have hkp : Dk.kept S a b = fs := by
            unfold Dk.kept
            rw [HK.out, List.getElem?_eq_none (Nat.le_refl _), hfs]
            rfl
          obtain ⟨WW, rfl⟩ : ∃ WW, WW = wr := ⟨_, rfl⟩
          have HKP := Lib.hid hkp
          have HFL := Lib.hid hfl
          have HCW := Lib.hid hcw
          have HONW := Lib.hid HC.out.on
          clear hkp hfl hcw hfs hlt hkl hi hcap hlen
          obtain ⟨V, hV⟩ : ∃ V, WW.setCells d 1 (strs fs).toArray.toList = V := ⟨_, rfl⟩
          obtain ⟨r1, r2, r3, r4, v33, v34, v35, z33, z34, z35⟩ := crash_facts HN.out HFL.out HCW.out hV
          have HR1 := Lib.hid r1
          have HR2 := Lib.hid r2
          have HR3 := Lib.hid r3
          have HR4 := Lib.hid r4
          have HV := Lib.hid hV
          have HI := Lib.hid (info_files2 fs HFL.out)
          have HONE := Lib.hid (strs_one fs)
          clear hV r1 r2 r3 r4
          go_wp2_with (first
            | (refine wpList_load_mid rfl 89 _ rfl d 17 rfl (strs fs) _ HR1.out Try.underlying89 rfl HI.out.1 ?_)
            | (refine wpList_store_mid rfl 89 _ _ rfl d 1 (strs fs).toArray rfl rfl HR2.out HI.out.2 HONE.out ?_; rw [HV.out]))
          go_end0
          exact ⟨rfl, crash_fin H.out HONW.out HFL.out HR3.out HR4.out HKP.out⟩

end Go.Proofs.Ytllecjhfbojgcaa
