/-
  The reference's disk: Power, Sync, made walked.
-/
import Derived.Test.YtdnjmihalmhddaaRefDisk
import Derived.Test.YtdnjmihalmhddaaFreeRegion
import Derived.StillTailTactics
import Derived.Deep.CutRange
namespace Go.Proofs.Ytdnjmihalmhddaa
open Go.RowKit

theorem rpower_any (w : World) (r : Nat) (S : Dk.St) (G : Nat → Prop) (h : RDAt w r S G) (n : Int) (hn : n ≤ 9223372036854775807) :
    Calls Try.prog 41 #[ptr r 0, .int .i64 n] w fun e w' => e = .returned (.int .i64 (Dk.power S n).1) ∧ RTurned w w' r (Dk.power S n).2 G := by
  have hOK := Dk.power_ok h.ok n hn
  have H := Lib.hid h
  obtain ⟨lo, hc, hl, hg⟩ := h.cells
  obtain ⟨-, c34, c35⟩ := diskC_rest h.ok lo
  have c34 := cells_at hc 34 _ c34
  have c35 := cells_at hc 35 _ c35
  have f35 := cells_free hc 35
  obtain ⟨-, -, g35⟩ := diskC_set h.ok.nowL h.ok.sureL lo
  have HC := Lib.hid hc
  have HL := Lib.hid hl
  have HGG := Lib.hid hg
  have HG := Lib.hid g35
  clear h hc hl g35 hg
  unfold Dk.power at hOK ⊢
  by_cases ho : S.off = true
  · rw [if_pos ho] at hOK ⊢
    rw [ho] at c34
    clear hOK ho hn
    unfold ptr
    go_enter Try.func41, Try.ntmps41
    go_wp2_with fail
    go_ret
    exact ⟨rfl, RTurned.self H.out⟩
  · rw [if_neg ho] at hOK ⊢
    rw [show S.off = false by simpa using ho] at c34
    clear ho
    by_cases h0 : n < 0
    · rw [if_pos h0]
      have hd : decide (n < 0) = true := by simpa using h0
      clear h0 hOK
      unfold ptr
      go_enter Try.func41, Try.ntmps41
      go_wp2_with fail
      go_ret
      exact ⟨rfl, RTurned.self H.out⟩
    · rw [if_neg h0] at hOK ⊢
      have hd : decide (n < 0) = false := by simpa using h0
      have HOK := Lib.hid hOK
      clear h0 hOK
      unfold ptr
      go_enter Try.func41, Try.ntmps41
      go_wp2_with fail
      go_ret
      exact ⟨rfl, H.out.set HC.out HL.out HGG.out (Only.setCell _ _ ⟨r, 35, none⟩ _ rfl) (by rw [cells_set HC.out, HG.out n]) HOK.out rfl⟩

set_option maxHeartbeats 1000000 in
theorem rsync_any (w : World) (r : Nat) (S : Dk.St) (G : Nat → Prop) (h : RDAt w r S G) :
    Calls Try.prog 40 #[ptr r 0] w fun e w' => e = .returned (.int .i64 (Dk.sync S).1) ∧ RTurned w w' r (Dk.sync S).2 G := by
  have hOK := Dk.sync_ok h.ok
  have H := Lib.hid h
  obtain ⟨lo, hc, hl, hg⟩ := h.cells
  obtain ⟨-, c34, -⟩ := diskC_rest h.ok lo
  have c34 := cells_at hc 34 _ c34
  clear h hc hl hg
  unfold Dk.sync at hOK ⊢
  by_cases ho : S.off = true
  · rw [if_pos ho] at hOK ⊢
    rw [ho] at c34
    clear hOK ho
    unfold ptr
    go_enter Try.func40, Try.ntmps40
    go_wp2_with fail
    go_ret
    exact ⟨rfl, RTurned.self H.out⟩
  · rw [if_neg ho] at hOK ⊢
    have ho : S.off = false := by simpa using ho
    rw [ho] at c34
    by_cases h0 : S.left = 0
    · rw [if_pos h0]
      have hop : Dk.op S = (50, { S with off := true }) := if_pos h0
      have HOP := Lib.hid hop
      clear h0 hOK hop ho
      unfold ptr
      go_enter Try.func40, Try.ntmps40
      go_wp2_with fail
      refine (rop_any _ r S G H.out).mono ?_
      rintro e w1 ⟨rfl, ht⟩
      rw [HOP.out] at ht ⊢
      have HT := Lib.hid ht
      clear ht
      go_wp2_with fail
      go_ret
      exact ⟨rfl, HT.out⟩
    · rw [if_neg h0] at hOK ⊢
      have hop : Dk.op S = (0, { S with left := Dk.less S.left }) := by
        unfold Dk.op
        rw [if_neg h0]
        unfold Dk.less
        split <;> rfl
      have HOP := Lib.hid hop
      have HOK := Lib.hid hOK
      clear h0 hOK hop ho
      unfold ptr
      go_enter Try.func40, Try.ntmps40
      go_wp2_with fail
      refine (rop_any _ r S G H.out).mono ?_
      rintro e w1 ⟨rfl, ht⟩
      rw [HOP.out] at ht ⊢
      obtain ⟨G1, ho1, hD1, hg1⟩ := ht
      obtain ⟨lo, hc1, hl1, hgg1⟩ := hD1.cells
      have hnL := hD1.ok.nowL
      have hsL := hD1.ok.sureL
      have hrg := Lib.hid (rrange_now hD1.ok hc1)
      have hin := Lib.hid (rinfo (strs S.now) (by rw [strs_len]; exact hnL))
      have hin' := Lib.hid (rinfo' (strs S.now) (by rw [strs_len]; exact hnL))
      have hth := Lib.hid (there_of hc1 17 (strs S.now).toArray.size (by rw [List.size_toArray, strs_len]; unfold diskCells; rw [List.size_toArray, diskL_len hD1.ok]; simp at hnL; omega))
      have hone := Lib.hid (strs_one S.now)
      have HO1 := Lib.hid ho1
      have HG1 := Lib.hid hg1
      have HD1 := Lib.hid hD1
      have HC1 := Lib.hid hc1
      have HNL := Lib.hid hnL
      have HSL := Lib.hid hsL
      clear ho1 hD1 hc1 hl1 hnL hsL hgg1 hg1
      obtain ⟨W, hW⟩ : ∃ W, w1.setCells r 17 (strs S.now).toArray.toList = W := ⟨_, rfl⟩
      have hcW : W.heap[r]? = some (.cells (diskCells { S with sure := S.now, left := Dk.less S.left } lo) 47) := by
        rw [← hW, heap_setCells _ _ _ _ HC1.out, puts_sure HNL.out HSL.out lo S.now HNL.out]
        rfl
      have hoW : Only (fun k => k = r) w1 W := by rw [← hW]; exact Only.setCells (S := fun k => k = r) r rfl _ _ _
      have hok2 : Dk.Ok { S with sure := S.now, loose := [], left := Dk.less S.left } := HOK.out
      have q33 := cells_at hcW 33 lo (by show (diskL { S with sure := S.now, loose := [], left := Dk.less S.left } lo).toArray[33]? = _; simpa using diskL_rest hok2 lo 0)
      have r33 := cells_free hcW 33
      have HW := Lib.hid hW
      have HCW := Lib.hid hcW
      have HOW := Lib.hid hoW
      clear hW hcW hoW
      go_wp2_with (first
        | (refine wpList_load_mid rfl 44 _ rfl r 1 rfl (strs S.now) _ hrg.out Try.underlying44 rfl hin.out ?_)
        | (refine wpList_store_mid rfl 44 _ _ rfl r 17 (strs S.now).toArray rfl rfl hth.out hin'.out hone.out ?_; rw [HW.out]))
      go_ret
      have hfin := HD1.out.anew (S' := { S with sure := S.now, loose := [], left := Dk.less S.left }) (HOW.out.trans (Only.setCell (fun k => k = r) W ⟨r, 33, none⟩ (.slice none 0 0) rfl)) (by
        rw [cells_set HCW.out, (diskC_set (S := { S with sure := S.now, left := Dk.less S.left }) HNL.out HNL.out lo).1]
        rfl) HOK.out rfl
      obtain ⟨G2, o2, h2, g2⟩ := hfin
      have hs := HO1.out.size
      exact ⟨rfl, G2, HO1.out.trans' o2 HG1.out, h2, fun k hk => by rcases g2 k hk with h | h; exact HG1.out k h; exact .inr (by omega)⟩

theorem strs_set (fs : Dk.Files) (f : Nat) (v : ByteArray) : (strs fs).toArray.setIfInBounds f (.string v) = (strs (fs.set f v)).toArray := by
  rw [List.setIfInBounds_toArray]
  unfold strs
  rw [List.map_set]
def none16 : List Value := List.replicate 16 (.string ⟨#[]⟩)
theorem none16_cells : none16.toArray = #[Value.string ⟨#[]⟩, .string ⟨#[]⟩, .string ⟨#[]⟩, .string ⟨#[]⟩, .string ⟨#[]⟩, .string ⟨#[]⟩, .string ⟨#[]⟩, .string ⟨#[]⟩, .string ⟨#[]⟩, .string ⟨#[]⟩, .string ⟨#[]⟩, .string ⟨#[]⟩, .string ⟨#[]⟩, .string ⟨#[]⟩, .string ⟨#[]⟩, .string ⟨#[]⟩] := rfl

/-- The three boxes of made, as they lie behind its first region. -/
structure Boxes (w V : World) (fs : Dk.Files) (c : Array Value) : Prop where
  bel : Below w.heap.size w V
  size : V.heap.size = w.heap.size + 3
  f : V.heap[w.heap.size]? = some (.cells (strs fs).toArray 44)
  c : V.heap[w.heap.size + 1]? = some (.cells c 82)
  out : V.heap[w.heap.size + 1 + 1]? = some (.cells none16.toArray 44)
theorem Boxes.mk' (w : World) (fs : Dk.Files) (c : Array Value) : Boxes w (((w.alloc (.cells (strs fs).toArray 44)).alloc (.cells c 82)).alloc (.cells none16.toArray 44)) fs c := by
  have h1 := heap_alloc_new (w.alloc (.cells (strs fs).toArray 44)) (.cells c 82)
  have h2 := heap_alloc_new ((w.alloc (.cells (strs fs).toArray 44)).alloc (.cells c 82)) (.cells none16.toArray 44)
  rw [World.size_alloc] at h1
  rw [World.size_alloc, World.size_alloc] at h2
  exact ⟨bel_trans (bel_trans (bel_alloc _ _) (bel_alloc _ _)) (bel_alloc _ _), by simp, (Below.heap_alloc _ _ _ (by simp; omega)).trans ((Below.heap_alloc _ _ _ (by simp)).trans (heap_alloc_new _ _)), (Below.heap_alloc _ _ _ (by simp)).trans h1, h2⟩
/-- Behind a store into the files. -/
theorem Boxes.put {w V : World} {fs : Dk.Files} {c : Array Value} (h : Boxes w V fs c) (f : Nat) (v : ByteArray) : Boxes w (V.setCell ⟨w.heap.size, f, none⟩ (.string v)) (fs.set f v) c := by
  have hne : ∀ k, k ≠ w.heap.size → (V.setCell ⟨w.heap.size, f, none⟩ (.string v)).heap[k]? = V.heap[k]? := fun k hk => Below.heap_setCell _ _ _ _ (by exact hk)
  refine ⟨⟨h.bel.os, h.bel.tape, h.bel.output, by have := h.bel.size; simp; omega, fun k hk => ?_⟩, by simp [h.size], ?_, (hne _ (by omega)).trans h.c, (hne _ (by omega)).trans h.out⟩
  · rw [hne k (by omega)]
    exact h.bel.block k hk
  · rw [cells_set h.f, strs_set]
theorem Boxes.drew {w V : World} {fs : Dk.Files} {c : Array Value} (h : Boxes w V fs c) : Boxes w V.drew fs c := ⟨bel_trans h.bel (bel_drew V), h.size, h.f, h.c, h.out⟩
theorem Boxes.range {w V : World} {fs : Dk.Files} {c : Array Value} (h : Boxes w V fs c) : V.rangeAt w.heap.size 0 (strs fs) := fun j v hv => by
  rw [Nat.zero_add]
  exact cells_at h.f j v (by simpa using hv)
/-- Behind the end. -/
theorem Boxes.fin {w V : World} {fs : Dk.Files} {c : Array Value} (h : Boxes w V fs c) (hl : fs.length = 16) :
    Below w.heap.size w (V.setCells (w.heap.size + 1 + 1) 0 (strs fs).toArray.toList) ∧ (V.setCells (w.heap.size + 1 + 1) 0 (strs fs).toArray.toList).heap[w.heap.size + 1 + 1]? = some (.cells (strs fs).toArray 44) := by
  have hp := puts_mid (strs fs) [] none16 [] (by rw [strs_len, hl]; simp [none16])
  refine ⟨?_, ?_⟩
  rotate_left
  · rw [heap_setCells _ _ _ _ h.out]
    simpa using hp
  have ho := Only.setCells (S := fun k => k = w.heap.size + 1 + 1) (w.heap.size + 1 + 1) rfl (strs fs).toArray.toList 0 V
  exact h.bel.trans (ho.toBelow h.bel.size (fun i e => by rw [show i = w.heap.size + 1 + 1 from e]; omega))

set_option maxHeartbeats 1000000 in
theorem made_app (w : World) (fs : Dk.Files) (hl : fs.length = 16) (f : Nat) (hf : f < 16) (s : ByteArray) (b : Int) (hs : (Dk.at' fs f).size + s.size ≤ 4194304) :
    Calls Try.prog 49 #[.agg (strs fs).toArray, .agg (chCells (.app f s)).toArray, .int .i64 b] w fun e w' => e = .returned (.agg (strs (Dk.part f s (Dk.clip b s.size) fs)).toArray) ∧ Below w.heap.size w w' := by
  unfold chCells Dk.part
  have hs0 : ((s.size : Int) < 0) = False := by simp
  have hs1 : ((0 : Int) ≤ (s.size : Int)) = True := by simp
  have hs2 : ((s.size : Int) ≤ (s.size : Int)) = True := by simp
  by_cases h1 : b < 0
  · have hd : decide (b < 0) = true := by simpa using h1
    have hk : Dk.clip b s.size = 0 := by unfold Dk.clip; omega
    rw [hk, show s.extract 0 0 = ByteArray.empty by simp, show Dk.at' fs f ++ ByteArray.empty = Dk.at' fs f by simp]
    clear hk h1
    go_enter Try.func49, Try.ntmps49
    go_wp2_with fail
    have hB := Boxes.mk' w fs #[.int .i64 1, .int .i64 (f : Int), .int .i64 0, .string s]
    rw [none16_cells] at hB
    obtain ⟨V, hV⟩ : ∃ V, ((w.alloc (.cells (strs fs).toArray 44)).alloc (.cells #[.int .i64 1, .int .i64 (f : Int), .int .i64 0, .string s] 82)).alloc (.cells #[Value.string ⟨#[]⟩, .string ⟨#[]⟩, .string ⟨#[]⟩, .string ⟨#[]⟩, .string ⟨#[]⟩, .string ⟨#[]⟩, .string ⟨#[]⟩, .string ⟨#[]⟩, .string ⟨#[]⟩, .string ⟨#[]⟩, .string ⟨#[]⟩, .string ⟨#[]⟩, .string ⟨#[]⟩, .string ⟨#[]⟩, .string ⟨#[]⟩, .string ⟨#[]⟩] 44) = V := ⟨_, rfl⟩
    rw [hV] at hB ⊢
    have x0 := cells_at hB.f f (.string (Dk.at' fs f)) (by simpa using strs_at fs f (by omega))
    have xf := cells_free hB.f f
    have x1 := cells_at hB.c 0 _ rfl
    have x2 := cells_at hB.c 1 _ rfl
    have x3 := cells_at hB.c 2 _ rfl
    have x4 := cells_at hB.c 3 _ rfl
    simp only [List.getElem_toArray, List.getElem_cons_zero, List.getElem_cons_succ] at x1 x2 x3 x4
    obtain ⟨fv, hfv⟩ : ∃ fv, Dk.at' fs f = fv := ⟨_, rfl⟩
    rw [hfv] at hs x0
    have HFV := Lib.hid hfv
    have HB := Lib.hid hB
    have hf16 : (f : Int) < 16 := by omega
    clear hV hB hfv
    have hsum : (9223372036854775807 < fv.size) = False := by simp; omega
    refine wp_region_still_tail 11 (by kernel_rfl) (by kernel_rfl) ?_
    simp only [List.take_succ_cons, List.take_zero, List.drop_succ_cons, List.drop_zero]
    change wpStill _ _ V.drew (fun a' => wpList _ _ _ _ a' V.drew) _ _
    repeat still_step
    refine wpStill_nil ?_
    go_upto_region 13 with fail
    have hX := HB.out.drew.put f (fv)
    obtain ⟨X, hXX⟩ : ∃ X, V.drew.setCell ⟨w.heap.size, f, none⟩ (.string (fv)) = X := ⟨_, rfl⟩
    first
      | rw [hXX] at hX ⊢
      | (rw [show (V.setCell ⟨w.heap.size, f, none⟩ (.string (fv))).drew = X from hXX]; rw [hXX] at hX)
    have HX := Lib.hid hX
    clear hX
    have hrg := Lib.hid HX.out.range
    have hlx : (fs.set f fv).length = 16 := by simp; exact hl
    have hin := Lib.hid (rinfo (strs (fs.set f fv)) (by rw [strs_len]; exact hlx))
    have hin' := Lib.hid (rinfo' (strs (fs.set f fv)) (by rw [strs_len]; exact hlx))
    have hth := Lib.hid (there_of HX.out.out 0 (strs (fs.set f fv)).toArray.size (by rw [List.size_toArray, strs_len, hlx]; simp [none16]))
    have hone := Lib.hid (strs_one (fs.set f fv))
    have hfin := HX.out.fin hlx
    have HF := Lib.hid hfin
    obtain ⟨Y, hY⟩ : ∃ Y, X.setCells (w.heap.size + 1 + 1) 0 (strs (fs.set f fv)).toArray.toList = Y := ⟨_, rfl⟩
    have HY := Lib.hid hY
    rw [hY] at HF
    clear hfin hY
    go_wp2_with (first
      | (refine wpList_load_mid rfl 44 _ rfl w.heap.size 0 rfl (strs (fs.set f fv)) _ hrg.out Try.underlying44 rfl hin.out ?_)
      | (refine wpList_store_mid rfl 44 _ _ rfl (w.heap.size + 1 + 1) 0 (strs (fs.set f fv)).toArray rfl rfl hth.out hin'.out hone.out ?_; rw [HY.out]))
    exact bodyPost_ret (v := .agg (strs (fs.set f fv)).toArray) (results_cell_row (fn := Try.f49) rfl _ Y (w.heap.size + 1 + 1) 44 (strs (fs.set f fv)).toArray _ _ rfl HF.out.2 Try.underlying44 rfl hin'.out) rfl ⟨by rw [HFV.out], HF.out.1⟩
  · have hd : decide (b < 0) = false := by simpa using h1
    by_cases h2 : (s.size : Int) < b
    · have hd2 : decide ((s.size : Int) < b) = true := by simpa using h2
      have hk : Dk.clip b s.size = s.size := by unfold Dk.clip; omega
      rw [hk, Dk.extract_all]
      clear hk h1 h2
      go_enter Try.func49, Try.ntmps49
      go_wp2_with fail
      have hB := Boxes.mk' w fs #[.int .i64 1, .int .i64 (f : Int), .int .i64 0, .string s]
      rw [none16_cells] at hB
      obtain ⟨V, hV⟩ : ∃ V, ((w.alloc (.cells (strs fs).toArray 44)).alloc (.cells #[.int .i64 1, .int .i64 (f : Int), .int .i64 0, .string s] 82)).alloc (.cells #[Value.string ⟨#[]⟩, .string ⟨#[]⟩, .string ⟨#[]⟩, .string ⟨#[]⟩, .string ⟨#[]⟩, .string ⟨#[]⟩, .string ⟨#[]⟩, .string ⟨#[]⟩, .string ⟨#[]⟩, .string ⟨#[]⟩, .string ⟨#[]⟩, .string ⟨#[]⟩, .string ⟨#[]⟩, .string ⟨#[]⟩, .string ⟨#[]⟩, .string ⟨#[]⟩] 44) = V := ⟨_, rfl⟩
      rw [hV] at hB ⊢
      have x0 := cells_at hB.f f (.string (Dk.at' fs f)) (by simpa using strs_at fs f (by omega))
      have xf := cells_free hB.f f
      have x1 := cells_at hB.c 0 _ rfl
      have x2 := cells_at hB.c 1 _ rfl
      have x3 := cells_at hB.c 2 _ rfl
      have x4 := cells_at hB.c 3 _ rfl
      simp only [List.getElem_toArray, List.getElem_cons_zero, List.getElem_cons_succ] at x1 x2 x3 x4
      obtain ⟨fv, hfv⟩ : ∃ fv, Dk.at' fs f = fv := ⟨_, rfl⟩
      rw [hfv] at hs x0
      have HFV := Lib.hid hfv
      have HB := Lib.hid hB
      have hf16 : (f : Int) < 16 := by omega
      clear hV hB hfv
      have hsum : (9223372036854775807 < fv.size + s.size) = False := by simp; omega
      refine wp_region_still_tail 11 (by kernel_rfl) (by kernel_rfl) ?_
      simp only [List.take_succ_cons, List.take_zero, List.drop_succ_cons, List.drop_zero]
      change wpStill _ _ V.drew (fun a' => wpList _ _ _ _ a' V.drew) _ _
      repeat still_step
      refine wpStill_nil ?_
      go_upto_region 13 with fail
      have hX := HB.out.drew.put f (fv ++ s)
      obtain ⟨X, hXX⟩ : ∃ X, V.drew.setCell ⟨w.heap.size, f, none⟩ (.string (fv ++ s)) = X := ⟨_, rfl⟩
      first
        | rw [hXX] at hX ⊢
        | (rw [show (V.setCell ⟨w.heap.size, f, none⟩ (.string (fv ++ s))).drew = X from hXX]; rw [hXX] at hX)
      have HX := Lib.hid hX
      clear hX
      have hrg := Lib.hid HX.out.range
      have hlx : (fs.set f (fv ++ s)).length = 16 := by simp; exact hl
      have hin := Lib.hid (rinfo (strs (fs.set f (fv ++ s))) (by rw [strs_len]; exact hlx))
      have hin' := Lib.hid (rinfo' (strs (fs.set f (fv ++ s))) (by rw [strs_len]; exact hlx))
      have hth := Lib.hid (there_of HX.out.out 0 (strs (fs.set f (fv ++ s))).toArray.size (by rw [List.size_toArray, strs_len, hlx]; simp [none16]))
      have hone := Lib.hid (strs_one (fs.set f (fv ++ s)))
      have hfin := HX.out.fin hlx
      have HF := Lib.hid hfin
      obtain ⟨Y, hY⟩ : ∃ Y, X.setCells (w.heap.size + 1 + 1) 0 (strs (fs.set f (fv ++ s))).toArray.toList = Y := ⟨_, rfl⟩
      have HY := Lib.hid hY
      rw [hY] at HF
      clear hfin hY
      go_wp2_with (first
        | (refine wpList_load_mid rfl 44 _ rfl w.heap.size 0 rfl (strs (fs.set f (fv ++ s))) _ hrg.out Try.underlying44 rfl hin.out ?_)
        | (refine wpList_store_mid rfl 44 _ _ rfl (w.heap.size + 1 + 1) 0 (strs (fs.set f (fv ++ s))).toArray rfl rfl hth.out hin'.out hone.out ?_; rw [HY.out]))
      exact bodyPost_ret (v := .agg (strs (fs.set f (fv ++ s))).toArray) (results_cell_row (fn := Try.f49) rfl _ Y (w.heap.size + 1 + 1) 44 (strs (fs.set f (fv ++ s))).toArray _ _ rfl HF.out.2 Try.underlying44 rfl hin'.out) rfl ⟨by rw [HFV.out], HF.out.1⟩
    · obtain ⟨m, rfl⟩ : ∃ m : Nat, b = m := ⟨b.toNat, by omega⟩
      have hd2 : decide ((s.size : Int) < (m : Int)) = false := by simpa using h2
      have h2' : ((m : Int) < 0) = False := by simp
      have h3 : ((0 : Int) ≤ (m : Int)) = True := by simp
      have hd3 : ((s.size : Int) < (m : Int)) = False := by simpa using h2
      have h4 : ((m : Int) ≤ (s.size : Int)) = True := by simp at h2 ⊢; omega
      have hk : Dk.clip (m : Int) s.size = m := by simp at h2; unfold Dk.clip; omega
      rw [hk]
      clear hk h1 h2
      go_enter Try.func49, Try.ntmps49
      go_wp2_with fail
      have hB := Boxes.mk' w fs #[.int .i64 1, .int .i64 (f : Int), .int .i64 0, .string s]
      rw [none16_cells] at hB
      obtain ⟨V, hV⟩ : ∃ V, ((w.alloc (.cells (strs fs).toArray 44)).alloc (.cells #[.int .i64 1, .int .i64 (f : Int), .int .i64 0, .string s] 82)).alloc (.cells #[Value.string ⟨#[]⟩, .string ⟨#[]⟩, .string ⟨#[]⟩, .string ⟨#[]⟩, .string ⟨#[]⟩, .string ⟨#[]⟩, .string ⟨#[]⟩, .string ⟨#[]⟩, .string ⟨#[]⟩, .string ⟨#[]⟩, .string ⟨#[]⟩, .string ⟨#[]⟩, .string ⟨#[]⟩, .string ⟨#[]⟩, .string ⟨#[]⟩, .string ⟨#[]⟩] 44) = V := ⟨_, rfl⟩
      rw [hV] at hB ⊢
      have x0 := cells_at hB.f f (.string (Dk.at' fs f)) (by simpa using strs_at fs f (by omega))
      have xf := cells_free hB.f f
      have x1 := cells_at hB.c 0 _ rfl
      have x2 := cells_at hB.c 1 _ rfl
      have x3 := cells_at hB.c 2 _ rfl
      have x4 := cells_at hB.c 3 _ rfl
      simp only [List.getElem_toArray, List.getElem_cons_zero, List.getElem_cons_succ] at x1 x2 x3 x4
      obtain ⟨fv, hfv⟩ : ∃ fv, Dk.at' fs f = fv := ⟨_, rfl⟩
      rw [hfv] at hs x0
      have HFV := Lib.hid hfv
      have HB := Lib.hid hB
      have hf16 : (f : Int) < 16 := by omega
      clear hV hB hfv
      have hsum : (9223372036854775807 < fv.size + min m s.size) = False := by simp; omega
      refine wp_region_still_tail 11 (by kernel_rfl) (by kernel_rfl) ?_
      simp only [List.take_succ_cons, List.take_zero, List.drop_succ_cons, List.drop_zero]
      change wpStill _ _ V.drew (fun a' => wpList _ _ _ _ a' V.drew) _ _
      repeat still_step
      refine wpStill_nil ?_
      go_upto_region 13 with fail
      have hX := HB.out.drew.put f (fv ++ s.extract 0 m)
      obtain ⟨X, hXX⟩ : ∃ X, V.drew.setCell ⟨w.heap.size, f, none⟩ (.string (fv ++ s.extract 0 m)) = X := ⟨_, rfl⟩
      first
        | rw [hXX] at hX ⊢
        | (rw [show (V.setCell ⟨w.heap.size, f, none⟩ (.string (fv ++ s.extract 0 m))).drew = X from hXX]; rw [hXX] at hX)
      have HX := Lib.hid hX
      clear hX
      have hrg := Lib.hid HX.out.range
      have hlx : (fs.set f (fv ++ s.extract 0 m)).length = 16 := by simp; exact hl
      have hin := Lib.hid (rinfo (strs (fs.set f (fv ++ s.extract 0 m))) (by rw [strs_len]; exact hlx))
      have hin' := Lib.hid (rinfo' (strs (fs.set f (fv ++ s.extract 0 m))) (by rw [strs_len]; exact hlx))
      have hth := Lib.hid (there_of HX.out.out 0 (strs (fs.set f (fv ++ s.extract 0 m))).toArray.size (by rw [List.size_toArray, strs_len, hlx]; simp [none16]))
      have hone := Lib.hid (strs_one (fs.set f (fv ++ s.extract 0 m)))
      have hfin := HX.out.fin hlx
      have HF := Lib.hid hfin
      obtain ⟨Y, hY⟩ : ∃ Y, X.setCells (w.heap.size + 1 + 1) 0 (strs (fs.set f (fv ++ s.extract 0 m))).toArray.toList = Y := ⟨_, rfl⟩
      have HY := Lib.hid hY
      rw [hY] at HF
      clear hfin hY
      go_wp2_with (first
        | (refine wpList_load_mid rfl 44 _ rfl w.heap.size 0 rfl (strs (fs.set f (fv ++ s.extract 0 m))) _ hrg.out Try.underlying44 rfl hin.out ?_)
        | (refine wpList_store_mid rfl 44 _ _ rfl (w.heap.size + 1 + 1) 0 (strs (fs.set f (fv ++ s.extract 0 m))).toArray rfl rfl hth.out hin'.out hone.out ?_; rw [HY.out]))
      exact bodyPost_ret (v := .agg (strs (fs.set f (fv ++ s.extract 0 m))).toArray) (results_cell_row (fn := Try.f49) rfl _ Y (w.heap.size + 1 + 1) 44 (strs (fs.set f (fv ++ s.extract 0 m))).toArray _ _ rfl HF.out.2 Try.underlying44 rfl hin'.out) rfl ⟨by rw [HFV.out], HF.out.1⟩

set_option maxHeartbeats 1000000 in
theorem made_cutc (w : World) (fs : Dk.Files) (hl : fs.length = 16) (f n : Nat) (hf : f < 16) (b : Int) (hs : n ≤ (Dk.at' fs f).size) :
    Calls Try.prog 49 #[.agg (strs fs).toArray, .agg (chCells (.cut f n)).toArray, .int .i64 b] w fun e w' => e = .returned (.agg (strs ((Dk.Ch.cut f n).run fs)).toArray) ∧ Below w.heap.size w w' := by
  unfold chCells Dk.Ch.run
  go_enter Try.func49, Try.ntmps49
  go_wp2_with fail
  have hB := Boxes.mk' w fs #[.int .i64 2, .int .i64 (f : Int), .int .i64 (n : Int), .string ⟨#[]⟩]
  rw [none16_cells] at hB
  obtain ⟨V, hV⟩ : ∃ V, ((w.alloc (.cells (strs fs).toArray 44)).alloc (.cells #[.int .i64 2, .int .i64 (f : Int), .int .i64 (n : Int), .string ⟨#[]⟩] 82)).alloc (.cells #[Value.string ⟨#[]⟩, .string ⟨#[]⟩, .string ⟨#[]⟩, .string ⟨#[]⟩, .string ⟨#[]⟩, .string ⟨#[]⟩, .string ⟨#[]⟩, .string ⟨#[]⟩, .string ⟨#[]⟩, .string ⟨#[]⟩, .string ⟨#[]⟩, .string ⟨#[]⟩, .string ⟨#[]⟩, .string ⟨#[]⟩, .string ⟨#[]⟩, .string ⟨#[]⟩] 44) = V := ⟨_, rfl⟩
  rw [hV] at hB ⊢
  have x0 := cells_at hB.f f (.string (Dk.at' fs f)) (by simpa using strs_at fs f (by omega))
  have xf := cells_free hB.f f
  have x1 := cells_at hB.c 0 _ rfl
  have x2 := cells_at hB.c 1 _ rfl
  have x3 := cells_at hB.c 2 _ rfl
  have x4 := cells_at hB.c 3 _ rfl
  simp only [List.getElem_toArray, List.getElem_cons_zero, List.getElem_cons_succ] at x1 x2 x3 x4
  obtain ⟨fv, hfv⟩ : ∃ fv, Dk.at' fs f = fv := ⟨_, rfl⟩
  rw [hfv] at hs x0
  have HFV := Lib.hid hfv
  have HB := Lib.hid hB
  have hf16 : (f : Int) < 16 := by omega
  clear hV hB hfv
  have h3 : ((0 : Int) ≤ (n : Int)) = True := by simp
  have h4 : ((n : Int) ≤ (fv.size : Int)) = True := by simp; omega
  refine wp_region_still_tail 9 (by kernel_rfl) (by kernel_rfl) ?_
  simp only [List.take_succ_cons, List.take_zero, List.drop_succ_cons, List.drop_zero]
  change wpStill _ _ V.drew (fun a' => wpList _ _ _ _ a' V.drew) _ _
  repeat still_step
  refine wpStill_nil ?_
  go_upto_region 13 with fail
  have hX := HB.out.drew.put f (fv.extract 0 n)
  obtain ⟨X, hXX⟩ : ∃ X, V.drew.setCell ⟨w.heap.size, f, none⟩ (.string (fv.extract 0 n)) = X := ⟨_, rfl⟩
  first
    | rw [hXX] at hX ⊢
    | (rw [show (V.setCell ⟨w.heap.size, f, none⟩ (.string (fv.extract 0 n))).drew = X from hXX]; rw [hXX] at hX)
  have HX := Lib.hid hX
  clear hX
  have hrg := Lib.hid HX.out.range
  have hlx : (fs.set f (fv.extract 0 n)).length = 16 := by simp; exact hl
  have hin := Lib.hid (rinfo (strs (fs.set f (fv.extract 0 n))) (by rw [strs_len]; exact hlx))
  have hin' := Lib.hid (rinfo' (strs (fs.set f (fv.extract 0 n))) (by rw [strs_len]; exact hlx))
  have hth := Lib.hid (there_of HX.out.out 0 (strs (fs.set f (fv.extract 0 n))).toArray.size (by rw [List.size_toArray, strs_len, hlx]; simp [none16]))
  have hone := Lib.hid (strs_one (fs.set f (fv.extract 0 n)))
  have hfin := HX.out.fin hlx
  have HF := Lib.hid hfin
  obtain ⟨Y, hY⟩ : ∃ Y, X.setCells (w.heap.size + 1 + 1) 0 (strs (fs.set f (fv.extract 0 n))).toArray.toList = Y := ⟨_, rfl⟩
  have HY := Lib.hid hY
  rw [hY] at HF
  clear hfin hY
  go_wp2_with (first
    | (refine wpList_load_mid rfl 44 _ rfl w.heap.size 0 rfl (strs (fs.set f (fv.extract 0 n))) _ hrg.out Try.underlying44 rfl hin.out ?_)
    | (refine wpList_store_mid rfl 44 _ _ rfl (w.heap.size + 1 + 1) 0 (strs (fs.set f (fv.extract 0 n))).toArray rfl rfl hth.out hin'.out hone.out ?_; rw [HY.out]))
  exact bodyPost_ret (v := .agg (strs (fs.set f (fv.extract 0 n))).toArray) (results_cell_row (fn := Try.f49) rfl _ Y (w.heap.size + 1 + 1) 44 (strs (fs.set f (fv.extract 0 n))).toArray _ _ rfl HF.out.2 Try.underlying44 rfl hin'.out) rfl ⟨by rw [HFV.out], HF.out.1⟩
set_option maxHeartbeats 1000000 in
theorem made_movc (w : World) (fs : Dk.Files) (hl : fs.length = 16) (a b : Nat) (ha : a < 16) (hb : b < 16) (n : Int) :
    Calls Try.prog 49 #[.agg (strs fs).toArray, .agg (chCells (.mov a b)).toArray, .int .i64 n] w fun e w' => e = .returned (.agg (strs ((Dk.Ch.mov a b).run fs)).toArray) ∧ Below w.heap.size w w' := by
  unfold chCells Dk.Ch.run
  go_enter Try.func49, Try.ntmps49
  go_wp2_with fail
  have hB := Boxes.mk' w fs #[.int .i64 3, .int .i64 (a : Int), .int .i64 (b : Int), .string ⟨#[]⟩]
  rw [none16_cells] at hB
  obtain ⟨V, hV⟩ : ∃ V, ((w.alloc (.cells (strs fs).toArray 44)).alloc (.cells #[.int .i64 3, .int .i64 (a : Int), .int .i64 (b : Int), .string ⟨#[]⟩] 82)).alloc (.cells #[Value.string ⟨#[]⟩, .string ⟨#[]⟩, .string ⟨#[]⟩, .string ⟨#[]⟩, .string ⟨#[]⟩, .string ⟨#[]⟩, .string ⟨#[]⟩, .string ⟨#[]⟩, .string ⟨#[]⟩, .string ⟨#[]⟩, .string ⟨#[]⟩, .string ⟨#[]⟩, .string ⟨#[]⟩, .string ⟨#[]⟩, .string ⟨#[]⟩, .string ⟨#[]⟩] 44) = V := ⟨_, rfl⟩
  rw [hV] at hB ⊢
  have x0 := cells_at hB.f a (.string (Dk.at' fs a)) (by simpa using strs_at fs a (by omega))
  have y0 := cells_at hB.f b (.string (Dk.at' fs b)) (by simpa using strs_at fs b (by omega))
  have yf := cells_free hB.f b
  have xf := cells_free hB.f a
  have x1 := cells_at hB.c 0 _ rfl
  have x2 := cells_at hB.c 1 _ rfl
  have x3 := cells_at hB.c 2 _ rfl
  have x4 := cells_at hB.c 3 _ rfl
  simp only [List.getElem_toArray, List.getElem_cons_zero, List.getElem_cons_succ] at x1 x2 x3 x4
  obtain ⟨fv, hfv⟩ : ∃ fv, Dk.at' fs a = fv := ⟨_, rfl⟩
  rw [hfv] at x0
  have HFV := Lib.hid hfv
  have HB := Lib.hid hB
  have hf16 : (a : Int) < 16 := by omega
  have hg16 : (b : Int) < 16 := by omega
  clear hV hB hfv
  refine wp_region_still_tail 6 (by kernel_rfl) (by kernel_rfl) ?_
  simp only [List.take_succ_cons, List.take_zero, List.drop_succ_cons, List.drop_zero]
  change wpStill _ _ V.drew (fun a' => wpList _ _ _ _ a' V.drew) _ _
  repeat still_step
  refine wpStill_nil ?_
  go_upto_region 12 with fail
  have hX1 := HB.out.drew.put b fv
  obtain ⟨X1, hXX1⟩ : ∃ X, V.drew.setCell ⟨w.heap.size, b, none⟩ (.string fv) = X := ⟨_, rfl⟩
  first
    | rw [hXX1] at hX1 ⊢
    | (rw [show (V.setCell ⟨w.heap.size, b, none⟩ (.string fv)).drew = X1 from hXX1]; rw [hXX1] at hX1)
  have x0 := cells_at hX1.f a (.string (Dk.at' (fs.set b fv) a)) (by simpa using strs_at (fs.set b fv) a (by simp; omega))
  have xf := cells_free hX1.f a
  have x2 := cells_at hX1.c 1 _ rfl
  simp only [List.getElem_toArray, List.getElem_cons_zero, List.getElem_cons_succ] at x2
  have HX1 := Lib.hid hX1
  clear hX1 hXX1
  go_upto_region 13 with fail
  have hX := HX1.out.put a ByteArray.empty
  obtain ⟨X, hXX⟩ : ∃ X, X1.setCell ⟨w.heap.size, a, none⟩ (.string ByteArray.empty) = X := ⟨_, rfl⟩
  rw [show X1.setCell ⟨w.heap.size, a, none⟩ (.string ⟨#[]⟩) = X from hXX]
  rw [hXX] at hX
  have HX := Lib.hid hX
  clear hX
  have hrg := Lib.hid HX.out.range
  have hlx : ((fs.set b fv).set a ByteArray.empty).length = 16 := by simp; exact hl
  have hin := Lib.hid (rinfo (strs ((fs.set b fv).set a ByteArray.empty)) (by rw [strs_len]; exact hlx))
  have hin' := Lib.hid (rinfo' (strs ((fs.set b fv).set a ByteArray.empty)) (by rw [strs_len]; exact hlx))
  have hth := Lib.hid (there_of HX.out.out 0 (strs ((fs.set b fv).set a ByteArray.empty)).toArray.size (by rw [List.size_toArray, strs_len, hlx]; simp [none16]))
  have hone := Lib.hid (strs_one ((fs.set b fv).set a ByteArray.empty))
  have hfin := HX.out.fin hlx
  have HF := Lib.hid hfin
  obtain ⟨Y, hY⟩ : ∃ Y, X.setCells (w.heap.size + 1 + 1) 0 (strs ((fs.set b fv).set a ByteArray.empty)).toArray.toList = Y := ⟨_, rfl⟩
  have HY := Lib.hid hY
  rw [hY] at HF
  clear hfin hY
  go_wp2_with (first
    | (refine wpList_load_mid rfl 44 _ rfl w.heap.size 0 rfl (strs ((fs.set b fv).set a ByteArray.empty)) _ hrg.out Try.underlying44 rfl hin.out ?_)
    | (refine wpList_store_mid rfl 44 _ _ rfl (w.heap.size + 1 + 1) 0 (strs ((fs.set b fv).set a ByteArray.empty)).toArray rfl rfl hth.out hin'.out hone.out ?_; rw [HY.out]))
  exact bodyPost_ret (v := .agg (strs ((fs.set b fv).set a ByteArray.empty)).toArray) (results_cell_row (fn := Try.f49) rfl _ Y (w.heap.size + 1 + 1) 44 (strs ((fs.set b fv).set a ByteArray.empty)).toArray _ _ rfl HF.out.2 Try.underlying44 rfl hin'.out) rfl ⟨by rw [HFV.out], HF.out.1⟩

end Go.Proofs.Ytdnjmihalmhddaa
