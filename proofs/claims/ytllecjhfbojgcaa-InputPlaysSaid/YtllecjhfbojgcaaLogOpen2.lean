/-
  Open of a file with records.
-/
import Derived.Test.YtllecjhfbojgcaaLogParse
import Derived.Test.YtllecjhfbojgcaaLogOpen
namespace Go.Proofs.Ytllecjhfbojgcaa
open Go.RowKit Go.Shelf
set_option maxRecDepth 20000
attribute [local go_sem] Oper.semAt_some

namespace Lg
/-- What Open answers, and what it leaves. -/
def openL (D : Dk.St) (file : Int) : Int × Dk.St × St :=
  if (Dk.read D file).2 ≠ 0 then ((Dk.read D file).2, D, ⟨[], 0⟩) else
  if (bytesOf (parse (Dk.read D file).1)).length < (Dk.read D file).1.size then
    if (Dk.cut D file (bytesOf (parse (Dk.read D file).1)).length).1 ≠ 0 then ((Dk.cut D file (bytesOf (parse (Dk.read D file).1)).length).1, (Dk.cut D file (bytesOf (parse (Dk.read D file).1)).length).2, ⟨[], 0⟩) else
    if (Dk.sync (Dk.cut D file (bytesOf (parse (Dk.read D file).1)).length).2).1 ≠ 0 then ((Dk.sync (Dk.cut D file (bytesOf (parse (Dk.read D file).1)).length).2).1, (Dk.sync (Dk.cut D file (bytesOf (parse (Dk.read D file).1)).length).2).2, ⟨[], 0⟩) else
    (0, (Dk.sync (Dk.cut D file (bytesOf (parse (Dk.read D file).1)).length).2).2, ⟨parse (Dk.read D file).1, (parse (Dk.read D file).1).length⟩)
  else (0, D, ⟨parse (Dk.read D file).1, (parse (Dk.read D file).1).length⟩)
end Lg

/-- Behind the loop, where what is torn cannot be cut off: the loop's bag is emptied. -/
theorem open_fail {w Y : World} {d Db : Nat} {F F' : Nat → Prop} {D' : Dk.St} (hon : Only F w Y) (hD : DiskAt Y d D' F') (hF : ∀ k, F' k → F k ∨ w.heap.size ≤ k) (hDb : w.heap.size ≤ Db) (hFD : ∀ k, F' k → k ≠ Db) : Turned w (Y.putObj Db (.deferred none)) d D' F := by
  have hp : Only (fun k => k = Db) Y (Y.putObj Db (.deferred none)) := ⟨rfl, rfl, rfl, by rw [World.putObj_size]; exact Nat.le_refl _, fun k _ hk => World.putObj_heap_other hk⟩
  exact ⟨F', hon.trans' hp (fun i e => .inr (e ▸ hDb)), hD.only hp hFD, hF⟩

/-- What Open says. -/
def OpenL (w : World) (d : Nat) (D : Dk.St) (F : Nat → Prop) (file : Int) (e : Ending) (w' : World) : Prop :=
  ((Lg.openL D file).1 = 0 ∧ ∃ l, e = .returned (.tuple #[ptr l 0, .int .i64 0]) ∧ w.heap.size ≤ l ∧ Turned2 w w' l d file (Lg.openL D file).2.1 (Lg.openL D file).2.2 F (fun _ => False)) ∨
  ((Lg.openL D file).1 ≠ 0 ∧ e = .returned (.tuple #[.pointer none, .int .i64 (Lg.openL D file).1]) ∧ Turned w w' d (Lg.openL D file).2.1 F)

set_option maxHeartbeats 8000000 in
set_option maxRecDepth 100000 in
theorem logopen_all (w : World) (d : Nat) (D : Dk.St) (F : Nat → Prop) (hd : DiskAt w d D F) (file : Int) (hsz : (Dk.read D file).1.size ≤ 5000000) (hm : D.loose.length ≤ 1000000000) :
    Calls Try.prog 44 #[ptr d 0, .int .i64 file] w (OpenL w d D F file) := by
  by_cases hr : (Dk.read D file).2 = 0
  rotate_left
  · refine (logopen_off w d D F hd file hr).mono ?_
    rintro e w' ⟨rfl, hb⟩
    have ho : Lg.openL D file = ((Dk.read D file).2, D, ⟨[], 0⟩) := if_pos hr
    refine .inr ?_
    rw [ho]
    exact ⟨hr, rfl, Turned.below hd hb⟩
  have hopn : Lg.openL D file = (if (Lg.bytesOf (Lg.parse (Dk.read D file).1)).length < (Dk.read D file).1.size then
    if (Dk.cut D file (Lg.bytesOf (Lg.parse (Dk.read D file).1)).length).1 ≠ 0 then ((Dk.cut D file (Lg.bytesOf (Lg.parse (Dk.read D file).1)).length).1, (Dk.cut D file (Lg.bytesOf (Lg.parse (Dk.read D file).1)).length).2, ⟨[], 0⟩) else
    if (Dk.sync (Dk.cut D file (Lg.bytesOf (Lg.parse (Dk.read D file).1)).length).2).1 ≠ 0 then ((Dk.sync (Dk.cut D file (Lg.bytesOf (Lg.parse (Dk.read D file).1)).length).2).1, (Dk.sync (Dk.cut D file (Lg.bytesOf (Lg.parse (Dk.read D file).1)).length).2).2, ⟨[], 0⟩) else
    (0, (Dk.sync (Dk.cut D file (Lg.bytesOf (Lg.parse (Dk.read D file).1)).length).2).2, ⟨Lg.parse (Dk.read D file).1, (Lg.parse (Dk.read D file).1).length⟩)
  else (0, D, ⟨Lg.parse (Dk.read D file).1, (Lg.parse (Dk.read D file).1).length⟩)) := if_neg (by simpa using hr)
  unfold OpenL
  obtain ⟨Z, hZ⟩ : ∃ Z, Lg.openL D file = Z := ⟨_, rfl⟩
  rw [hZ] at hopn ⊢
  clear hZ
  refine (callsIn_wide (n := 3)).1 ?_
  have hrd := read_any w d D F hd file
  unfold Lg.parse at hopn
  obtain ⟨s, hs⟩ : ∃ s, (Dk.read D file).1 = s := ⟨_, rfl⟩
  rw [hr] at hrd
  rw [hs] at hrd hsz hopn
  obtain ⟨hitems, htot, hle⟩ := allF_is s.size s.data.toList
  rw [len_data] at hle
  obtain ⟨items, hit⟩ : ∃ items, (Cl.allF s.size s.data.toList).1 = items := ⟨_, rfl⟩
  rw [hit] at hitems htot hopn
  have hb0 := Lg.recs_bytes items
  obtain ⟨rs0, hrs0⟩ : ∃ rs, Lg.recsOf items = rs := ⟨_, rfl⟩
  rw [hrs0] at hopn hb0
  have hrl0 := rs_le rs0
  obtain ⟨bl0, hbl0⟩ : ∃ bl, (Lg.bytesOf rs0).length = bl := ⟨_, rfl⟩
  rw [hbl0] at hopn hb0 hrl0
  have HDD := Lib.hid hopn
  have HRS0 := Lib.hid hrs0
  have HBL0 := Lib.hid hbl0
  have HB0 := Lib.hid hb0
  have HRL0 := Lib.hid hrl0
  clear hopn hrs0 hbl0 hb0 hrl0
  have HD := Lib.hid hd
  have HRD := Lib.hid hrd
  have HI := Lib.hid hitems
  have HS := Lib.hid hsz
  have HE := Lib.hid hit
  have HM := Lib.hid hm
  have HLE := Lib.hid (show lens items ≤ s.size by rw [htot]; exact hle)
  clear hd hrd hitems hsz hit hm htot hle hr hs
  unfold ptr
  show CallsIn _ _ _ _ #[.pointer (some ⟨d, 0, none⟩), _] _ _
  refine callsIn_of_wp_marks Try.func44 rfl trivial ?_ rfl
  simp only [Try.ntmps44, List.size_toArray, List.length_cons, List.length_nil, Nat.reduceAdd, Nat.reduceSub, Array.replicate_succ, Array.replicate_zero, List.push_toArray, List.append_toArray, List.nil_append, List.cons_append]
  gi_wp2_with (refine ⟨trivial, ?_⟩; gi_at_call 61; refine (callsIn_wide.2 HRD.out).mono ?_; rintro e w1 ⟨rfl, hb1⟩)
  have HB1 := Lib.hid hb1
  clear hb1
  refine ⟨trivial, (callsIn_wide.2 (all_maker _ _)).mono ?_⟩
  rintro e w' ⟨rfl, rfl⟩
  gi_wp2_with fail
  obtain ⟨W0, hW0⟩ : ∃ W0, ((w1.alloc (.cells #[.pointer (some ⟨d, 0, none⟩), .int .i64 file, .slice none 0 0, .int .i64 0] 155)).alloc (.cells #[.pointer (some ⟨w1.heap.size, 0, none⟩)] 93)).alloc (.cells #[.string s] 9) = W0 := ⟨_, rfl⟩
  have hsz : W0.heap.size = w1.heap.size + 3 := by rw [← hW0]; simp
  have hbe : Below w1.heap.size w1 W0 := by rw [← hW0]; exact bel_trans (bel_trans (bel_alloc _ _) (bel_alloc _ _)) (bel_alloc _ _)
  have hl0 : W0.heap[w1.heap.size]? = some (.cells #[.pointer (some ⟨d, 0, none⟩), .int .i64 file, .slice none 0 0, .int .i64 0] 155) := by
    rw [← hW0]
    exact (Below.heap_alloc _ _ _ (by simp; omega)).trans ((Below.heap_alloc _ _ _ (by simp)).trans (heap_alloc_new w1 _))
  have hp0 : Boxed W0 (w1.heap.size + 1) 93 (.pointer (some ⟨w1.heap.size, 0, none⟩)) := by
    rw [← hW0]
    have := Boxed.new (w1.alloc (.cells #[.pointer (some ⟨d, 0, none⟩), .int .i64 file, .slice none 0 0, .int .i64 0] 155)) 93 (.pointer (some ⟨w1.heap.size, 0, none⟩))
    rw [World.size_alloc] at this
    exact this.alloc _
  have hs0 : Boxed W0 (w1.heap.size + 2) 9 (.string s) := by
    rw [← hW0]
    have := Boxed.new ((w1.alloc (.cells #[.pointer (some ⟨d, 0, none⟩), .int .i64 file, .slice none 0 0, .int .i64 0] 155)).alloc (.cells #[.pointer (some ⟨w1.heap.size, 0, none⟩)] 93)) 9 (.string s)
    rwa [World.size_alloc, World.size_alloc] at this
  rw [hW0]
  clear hW0
  have hgv : Gives Fence.wide (3 - 1) Try.prog 102 #[.pointer (some ⟨w1.heap.size + 2, 0, none⟩)] frameV items (w1.heap.size + 2) W0 := by
    rw [← HE.out]; exact all_gives s HS.out _ (by decide) _ _ hs0
  obtain ⟨i0, hi0, hz0, hz1, hz2⟩ := info_parts infoRecord
  refine over_items' (F := Fence.wide) rfl (by decide) rfl trivial (enters_of Try.func102 (by kernel_rfl) rfl) (by omega) hgv (fun _ => rfl)
    (fun k W => OpenAt w1 w1.heap.size d file (Lg.recsOf (items.take k)) W) (fun _ _ _ => False)
    (fun k => OpenAt.stands (by omega) (Nat.le_refl _)) (fun _ _ _ _ _ h _ _ => h)
    ⟨.slice none 0 0, hl0, .inl (World.ownsRow_nil _ _ _ _), fun g hg => (by cases hg), hp0, hbe, by omega⟩ ?hround ?done ?stop
  case hround =>
    apply Exists.intro
    apply And.intro
    · intro l y W K hK
      simp only [frameV]
      gi_wp2
      exact hK
    · rintro l k y W hy ⟨lv, hl, hr, hg, hp, hB, hge⟩
      have hpi := HI.out y (List.mem_of_getElem? hy)
      have hrs := Lg.recs_snoc items k y hy
      have hb := Lg.recs_bytes (items.take (k + 1))
      have hle := lens_le items (k + 1)
      have hlt0 : w1.heap.size < W.heap.size := by omega
      obtain ⟨rs, hrs0⟩ : ∃ rs, Lg.recsOf (items.take k) = rs := ⟨_, rfl⟩
      rw [hrs0] at hr hrs
      rw [hrs] at hb
      obtain ⟨q, hq⟩ : ∃ q, (Cl.putF (UInt8.ofNat y.1) y.2) = q := ⟨_, rfl⟩
      have hbl : (Lg.bytesOf (rs ++ [Lg.recOf y])).length ≤ 5000000 := by have := HS.out; have := HLE.out; omega
      have hbs := hbl
      rw [Lg.bytes_snoc, List.length_append] at hbs
      have hfq : Lg.frameB (Lg.recOf y) = q := hq
      rw [hfq] at hbs
      obtain ⟨la, lc, rfl⟩ := hr.reads.shape
      have hlen := hr.reads.lenLe
      unfold maxLen at hlen
      have hrl := rs_le rs
      have HP := Lib.hid hpi
      have HL := Lib.hid hl
      have HR := Lib.hid hr
      have HG := Lib.hid hg
      have HPB := Lib.hid hp
      have HB := Lib.hid hB
      have HQ := Lib.hid hq
      have HRS := Lib.hid hrs
      have HBL := Lib.hid hbl
      have hqs := size_mk q
      have HXS := Lib.hid (show Lg.cells rs ++ [.int .u8 (y.1 : Int), .string ⟨y.2.toArray⟩, .int .i64 (((Lg.bytesOf rs).length : Int) + (q.length : Int))] = Lg.cells (rs ++ [Lg.recOf y]) by
        rw [Lg.cells_snoc, hfq, Int.natCast_add]
        obtain ⟨c, hc, -, -⟩ := hpi
        show _ = Lg.cells rs ++ [.int .u8 ((UInt8.ofNat y.1).toNat : Int), _, _]
        rw [hc, of_toNat]
        rfl)
      clear hy hpi hrs hb hle hl hr hg hp hB hq hbl hrs0 hfq
      gi_wp2_with (refine ⟨trivial, ?_⟩; gi_at_call 83; refine (CallsIn.inRound l (callsIn_wide.2 (putf_item y _ HP.out))).mono ?_; rintro e w' ⟨rfl, hb1⟩; rw [HQ.out])
      have hC1 : ∀ W', Below W.heap.size W W' → (W'.cell? ⟨w1.heap.size + 1, 0, none⟩ = some (.pointer (some ⟨w1.heap.size, 0, none⟩)) ∧ W'.cell? ⟨w1.heap.size, 2, none⟩ = some (.slice la rs.length lc) ∧
          Calls Try.prog 84 #[.pointer (some ⟨w1.heap.size, 0, none⟩), .int .i64 (rs.length : Int)] W' fun e w'' => e = .returned (.int .i64 ((Lg.bytesOf rs).length : Int)) ∧ w'' = W') := fun W' hb => by
        obtain ⟨G, hG, -⟩ := OpenAt.log (w1 := w1) (W := W) (d := d) (file := file) (rs := rs) ⟨_, HL.out, HR.out, HG.out, HPB.out, HB.out, hge⟩ (by omega)
        refine ⟨(boxed_below HPB.out hb).cell, cells_at ((hb.block _ hlt0).trans HL.out) 2 _ rfl, ?_⟩
        have := logend_any W' w1.heap.size d file _ G (hG.below hb) rs.length (Nat.le_refl _)
        rw [Lg.ends_all] at this
        exact this.mono (fun e w'' h => ⟨h.1, h.2.symm⟩)
      have HB1' := Lib.hid hb1
      have hA := hC1 _ hb1.drew
      have HC1 := Lib.hid hC1
      clear hC1 hb1
      obtain ⟨bl, hbl⟩ : ∃ bl, (Lg.bytesOf rs).length = bl := ⟨_, rfl⟩
      rw [hbl] at HC1 HXS hA hbs
      have e1 : IntKind.i64.wrap ((bl : Int) + (q.length : Int)) = (bl : Int) + (q.length : Int) := IntWalk.i64_in _ (by omega)
      refine wpIn_region_round 1 18 (fun W' => W'.cell? ⟨w1.heap.size + 1, 0, none⟩ = some (.pointer (some ⟨w1.heap.size, 0, none⟩)) ∧ W'.cell? ⟨w1.heap.size, 2, none⟩ = some (.slice la rs.length lc) ∧
          Calls Try.prog 84 #[.pointer (some ⟨w1.heap.size, 0, none⟩), .int .i64 (rs.length : Int)] W' fun e w'' => e = .returned (.int .i64 (bl : Int)) ∧ w'' = W') (fun W' => W'.cell? ⟨w1.heap.size + 1, 0, none⟩ = some (.pointer (some ⟨w1.heap.size, 0, none⟩)))
        _ _ (by kernel_rfl) (by kernel_rfl) rfl rfl rfl rfl (fun _ _ _ _ _ h => h) (fun _ h => h.1) hA ?_
      simp only [List.take_succ_cons, List.take_zero, List.drop_succ_cons, List.drop_zero]
      clear hA
      refine yields_step (fun K hK => ?_)
      apply Exists.intro
      apply And.intro
      · apply yields_at
        · rfl
        · intro W' c0
          go_simp
          rfl
      go_simp
      refine hK _ ?_
      clear hK K
      refine yields_nil ?_
      iterate 17 (refine yields_step (fun K hK => ?_); apply Exists.intro; apply And.intro; (first | (apply yields_at rfl; rintro W' ⟨c0, c1, -⟩; go_simp; first | done | rfl) | (apply yields_by 84 #[.pointer (some ⟨w1.heap.size, 0, none⟩), .int .i64 (rs.length : Int)] rfl; focus (rintro W' ⟨c0, c1, he⟩; refine ⟨?_, he⟩; go_simp))); go_simp; refine hK _ ?_; clear hK K)
      refine yields_nil ?_
      refine wpIn_step (fun K hK => ?_)
      go_simp
      refine hK _ _ ?_
      clear hK K
      refine ⟨HC1.out _ (bel_trans HB1'.out.drew (bel_alloc _ _)), ?_⟩
      refine wpIn_step_plain (ops := #[]) (by intro c hc; cases hc) rfl (fun K hK => ?_)
      have hs1 := HB1'.out.size
      have hone : ∀ u ∈ [Value.int .u8 (y.1 : Int), .string ⟨y.2.toArray⟩, .int .i64 ((bl : Int) + (q.length : Int))], u.oneCell' = true := by simp [Value.oneCell']
      have hnews := heap_alloc_new w' (.cells #[.int .u8 (y.1 : Int), .string ⟨y.2.toArray⟩, .int .i64 ((bl : Int) + (q.length : Int))] 162)
      have hbW1 := (bel_trans HB1'.out (bel_alloc w' (.cells #[.int .u8 (y.1 : Int), .string ⟨y.2.toArray⟩, .int .i64 ((bl : Int) + (q.length : Int))] 162))).drew
      refine step_append_row rfl _ _ 153 rfl 162 i0 _ 3 32 Try.underlying153 hi0 hz0 hz1 hz2 rfl (by omega) (.slice la rs.length lc) rs.length (Lg.cells rs) (by rfl) (HR.out.kept (fun g hg => by
        obtain ⟨cur, hcur⟩ := HR.out.type g hg
        exact hbW1.block g (Array.getElem?_eq_some_iff.1 hcur).1)) ⟨w'.heap.size, 0, none⟩ 1 1 [.int .u8 (y.1 : Int), .string ⟨y.2.toArray⟩, .int .i64 ((bl : Int) + (q.length : Int))] rfl rfl (World.news_of_block (cs := #[.int .u8 (y.1 : Int), .string ⟨y.2.toArray⟩, .int .i64 ((bl : Int) + (q.length : Int))]) (t := 162) (fr := (0, 0)) hnews) hone (by omega) (by unfold maxLen; omega) (by omega) ?_
      intro gg cap w3 hown hgrow hat hltg
      have hfar : ∀ b, b < w1.heap.size + 3 → w3.heap[b]? = W.heap[b]? := fun b hb => (hgrow.block b (by have := hbW1.size; omega) (fun e => by have := HG.out b e.symm; omega)).trans (hbW1.block b (by omega))
      have q1 : w3.cell? ⟨w1.heap.size + 1, 0, none⟩ = some (.pointer (some ⟨w1.heap.size, 0, none⟩)) := (World.cell?_of_block (hfar (w1.heap.size + 1) (by omega))).trans HPB.out.cell
      have q2 : w3.cell? ⟨w1.heap.size, 2, none⟩ = some (.slice la rs.length lc) := (World.cell?_of_block (hfar w1.heap.size (by omega))).trans (cells_at HL.out 2 _ rfl)
      have qf : w3.frozen? ⟨w1.heap.size, 2, none⟩ = false := (World.frozen?_of_block (hfar w1.heap.size (by omega))).trans (cells_free HL.out 2)
      have HN := Lib.hid (OpenAt.next (g := gg) (cap := cap) HL.out HR.out HG.out HPB.out HB.out hge hbW1 hgrow hown HXS.out (by rcases hat with h | h; exact .inl h; exact .inr (by have := hbW1.size; omega)) (Nat.le_refl _))
      clear hown hgrow hat hfar hone hnews hbW1
      go_simp
      refine hK _ _ ⟨q1, ?_⟩
      clear hK K
      gi_wp2_with fail
      obtain ⟨e1, e2, e3⟩ := HN.out
      refine ⟨hsz ▸ e1, e2, ?_⟩
      show OpenAt w1 w1.heap.size d file (Lg.recsOf (items.take (k + 1))) _
      rw [HRS.out]
      exact e3
  case stop =>
    rintro D c k W _ _ h _
    exact h.elim
  case done =>
    rintro Db W hD hI hK
    have hI : OpenAt w1 w1.heap.size d file (Lg.recsOf (items.take items.length)) W := hI
    rw [List.take_length, HRS0.out] at hI
    have hbl : bl0 ≤ s.size := by have := HLE.out; have := HB0.out; omega
    have hs9 := HS.out
    have hrl := HRL0.out
    obtain ⟨G, hG, hGn⟩ := hI.log (by rw [HBL0.out]; omega)
    obtain ⟨lv, hl, hr, hg, hp, hB, hge⟩ := hI
    have hend := fun W' (h : Below W.heap.size W W') => logend_any W' w1.heap.size d file _ G (hG.below h) rs0.length (Nat.le_refl _)
    rw [Lg.ends_all, HBL0.out] at hend
    obtain ⟨la, lc, rfl⟩ := hr.reads.shape
    have hlen := hr.reads.lenLe
    unfold maxLen at hlen
    have hcp := hp.cell
    have hcl := cells_at hl 2 _ rfl
    have HG := Lib.hid hG
    have HGN := Lib.hid hGn
    have HLW := Lib.hid hl
    have HK := Lib.hid hK
    have HB := Lib.hid hB
    have HP := Lib.hid hp
    have HEND := Lib.hid hend
    have hWs : w1.heap.size < W.heap.size := by omega
    clear hl hK hB hp hgv hl0 hp0 hs0 hbe hG hGn hr hg hend
    gi_wp2_with fail
    refine wpIn_wide.2 ?_
    go_quiet ((go_at_call 84; exact Calls.quiet_of_same ((HEND.out _ (bel_drewN _ _)).mono (fun e w' h => ⟨h.1, h.2.symm⟩))))
    obtain ⟨U, hU⟩ : ∃ U, W.drewN nq = U := ⟨_, rfl⟩
    rw [hU]
    have hbU : Below W.heap.size W U := by rw [← hU]; exact bel_drewN _ _
    have hUs : U.heap.size = W.heap.size := by rw [← hU]; rfl
    clear hU hcp hcl
    have hGD : ∀ k, G k → k ≠ Db := fun k hk e => by
      obtain ⟨-, cur, T, hc⟩ := HGN.out k hk
      rw [e, HK.out] at hc
      cases hc
    have HGD := Lib.hid hGD
    have hDbW : Db < W.heap.size := (Array.getElem?_eq_some_iff.1 HK.out).1
    have hwU : Below w.heap.size w U := bel_trans HB1.out (HB.out.trans (hbU.mono (by omega)))
    have hs1 := HB1.out.size
    have hFlt := HD.out.lt
    have hdU := HD.out.below hwU
    have hLU := HG.out.below hbU
    have hlU := (hbU.block _ hWs).trans HLW.out
    have hpU := boxed_below HP.out hbU
    have hKU := (hbU.block _ hDbW).trans HK.out
    clear hGD
    by_cases hlt : bl0 < s.size
    · have hdec : decide (bl0 < s.size) = true := by simpa using hlt
      have hdd := HDD.out
      rw [if_pos hlt] at hdd
      obtain ⟨ec, Dc, hcu⟩ : ∃ ec Dc, Dk.cut D file (bl0 : Int) = (ec, Dc) := ⟨_, _, rfl⟩
      have hca := cut_any U d D F hdU file (bl0 : Int) HM.out
      rw [hcu] at hca hdd
      simp only at hca hdd
      obtain ⟨es, Ds, hsy⟩ : ∃ es Ds, Dk.sync Dc = (es, Ds) := ⟨_, _, rfl⟩
      rw [hsy] at hdd
      simp only at hdd
      have HSY := Lib.hid hsy
      have HCA := Lib.hid hca
      have HDDU := Lib.hid hdd
      have HLU := Lib.hid hLU
      have HlU := Lib.hid hlU
      have HPU := Lib.hid hpU
      have HKU := Lib.hid hKU
      have HWU := Lib.hid hwU
      have HFLT := Lib.hid hFlt
      clear hcu hca hsy hdd hdU hLU hlU hpU hKU hwU hFlt hbU
      have hnFU : ∀ k, w.heap.size ≤ k → ¬ F k := fun k hk h => by have := HFLT.out k h; omega
      have HNF := Lib.hid hnFU
      clear hnFU
      by_cases hec : ec = 0
      rotate_left
      · have hz : (ec != 0) = true := by simpa using hec
        have hdd := HDDU.out
        rw [if_pos (by simpa using hec)] at hdd
        have HEC := Lib.hid hec
        clear hec
        gi_wp2_with (refine ⟨trivial, ?_⟩; gi_at_call 55; refine (callsIn_wide.2 HCA.out).mono ?_; rintro e w2 ⟨rfl, F1, ho2, hd2, hF1⟩)
        have hKY := (ho2.block _ (by omega) (HNF.out _ (by omega))).trans HKU.out
        have HT := Lib.hid (open_fail (Db := Db) ((Only.below HWU.out).trans ho2) hd2 (fun k hk => by
          rcases hF1 k hk with h | h
          · exact .inl h
          · exact .inr (by omega)) (by omega) (fun k hk e => by
          rcases hF1 k hk with h | h
          · have := HFLT.out k h; omega
          · omega))
        clear ho2 hd2 hF1
        refine ⟨by simp, .inl ⟨_, _, rfl, run_takeDeferred hKY, ?_⟩⟩
        refine ⟨_, results_tmp2 rfl _ _ _, .inr ?_⟩
        rw [hdd]
        exact ⟨HEC.out, rfl, HT.out⟩
      subst hec
      by_cases hes : es = 0
      rotate_left
      · have hz : (es != 0) = true := by simpa using hes
        have hdd := HDDU.out
        rw [if_neg (by simp), if_pos (by simpa using hes)] at hdd
        have HES := Lib.hid hes
        clear hes
        gi_wp2_with (refine ⟨trivial, ?_⟩; gi_at_call 55; refine (callsIn_wide.2 HCA.out).mono ?_; rintro e w2 ⟨rfl, F1, ho2, hd2, hF1⟩)
        have hsa := sync_any w2 d _ F1 hd2
        rw [HSY.out] at hsa
        refine ⟨trivial, (callsIn_wide.2 hsa).mono ?_⟩
        rintro e Y ⟨rfl, ho3, hdY⟩
        have ho23 : Only F U Y := ho2.trans' ho3 (fun i e => .inl (by show F i; rw [e]; exact HD.out.mem))
        have hKY := (ho23.block _ (by omega) (HNF.out _ (by omega))).trans HKU.out
        have HT := Lib.hid (open_fail (Db := Db) ((Only.below HWU.out).trans ho23) hdY (fun k hk => by
          rcases hF1 k hk with h | h
          · exact .inl h
          · exact .inr (by omega)) (by omega) (fun k hk e => by
          rcases hF1 k hk with h | h
          · have := HFLT.out k h; omega
          · omega))
        clear ho2 hd2 hF1 ho3 hdY ho23 hsa
        gi_wp2_with fail
        refine ⟨by simp, .inl ⟨_, _, rfl, run_takeDeferred hKY, ?_⟩⟩
        refine ⟨_, results_tmp2 rfl _ _ _, .inr ?_⟩
        rw [hdd]
        exact ⟨HES.out, rfl, HT.out⟩
      subst hes
      have hdd := HDDU.out
      rw [if_neg (by simp), if_neg (by simp)] at hdd
      have HDDU := Lib.hid hdd
      clear hdd
      gi_wp2_with (refine ⟨trivial, ?_⟩; gi_at_call 55; refine (callsIn_wide.2 HCA.out).mono ?_; rintro e w2 ⟨rfl, F1, ho2, hd2, hF1⟩)
      have hsa := sync_any w2 d _ F1 hd2
      rw [HSY.out] at hsa
      refine ⟨trivial, (callsIn_wide.2 hsa).mono ?_⟩
      rintro e Y ⟨rfl, ho3, hdY⟩
      clear hsa
      have ho23 : Only F U Y := ho2.trans' ho3 (fun i e => .inl (by show F i; rw [e]; exact HD.out.mem))
      have hnF : ∀ k, w.heap.size ≤ k → ¬ F k := fun k hk h => by have := HFLT.out k h; omega
      have hlY := (ho23.block _ (by omega) (hnF _ (by omega))).trans HlU.out
      have hpY : Boxed Y (w1.heap.size + 1) 93 (.pointer (some ⟨w1.heap.size, 0, none⟩)) := (ho23.block _ (by omega) (hnF _ (by omega))).trans HPU.out
      have hKY := (ho23.block _ (by omega) (hnF _ (by omega))).trans HKU.out
      have honY : Only F w Y := (Only.below HWU.out).trans ho23
      have hLY := HLU.out.only ho23 (fun k hk => hnF k (by have := (HGN.out k hk).1; omega))
      have hFY : ∀ k, F1 k → F k ∨ w.heap.size ≤ k := fun k hk => by
        rcases hF1 k hk with h | h
        · exact .inl h
        · exact .inr (by omega)
      have hdisY : ∀ k, F1 k → ¬ G k := fun k hk hg => by
        have h3 := (HGN.out k hg).1
        have h4 := HG.out.lt k hg
        rcases hF1 k hk with h | h
        · have := HFLT.out k h; omega
        · omega
      have hFD : ∀ k, F1 k → k ≠ Db := fun k hk e => by
        rcases hF1 k hk with h | h
        · have := HFLT.out k h; omega
        · omega
      clear ho2 hd2 hF1 ho3 ho23 hnF
      have q1 := cells_at hlY 2 _ rfl
      have q2 := cells_at hlY 3 _ rfl
      have q3 := cells_free hlY 3
      have qp := hpY.cell
      simp only [List.getElem_toArray, List.getElem_cons_succ, List.getElem_cons_zero] at q1 q2
      have HON := Lib.hid honY
      have HDY := Lib.hid hdY
      have HLY := Lib.hid hLY
      have HFY := Lib.hid hFY
      have HDIS := Lib.hid hdisY
      have HFD := Lib.hid hFD
      have HKY := Lib.hid hKY
      have HLB := Lib.hid hlY
      clear honY hdY hLY hFY hdisY hFD hKY hlY hpY
      gi_wp2_with fail
      refine wpIn_wide.2 ?_
      refine wp_region_still_tail 8 (by kernel_rfl) (by kernel_rfl) ?_
      simp only [List.take_succ_cons, List.take_zero, List.drop_succ_cons, List.drop_zero]
      change wpStill _ _ Y.drew (fun a' => wpList _ _ _ _ a' Y.drew) _ _
      repeat still_step
      refine wpStill_nil ?_
      go_wp2_with fail
      obtain ⟨X, hX⟩ : ∃ X, (Y.setCell ⟨w1.heap.size, 3, none⟩ (.int .i64 (rs0.length : Int))).drew = X := ⟨_, rfl⟩
      have hXp : X.cell? ⟨w1.heap.size + 1, 0, none⟩ = some (.pointer (some ⟨w1.heap.size, 0, none⟩)) := by
        rw [← hX]
        exact (World.cell?_of_block (Below.heap_setCell _ _ _ _ (by simp))).trans qp
      have hXK : X.heap[Db]? = some (.deferred (some [])) := by rw [← hX]; exact (Below.heap_setCell _ _ _ _ (by show Db ≠ w1.heap.size; omega)).trans HKY.out
      have HX := Lib.hid hX
      have HXK := Lib.hid hXK
      rw [hX]
      clear hX hXK q1 q2 q3 qp
      gi_wp2_with fail
      refine ⟨by simp, .inl ⟨_, _, rfl, run_takeDeferred HXK.out, ?_⟩⟩
      refine ⟨_, results_tmp2 rfl _ _ _, .inl ?_⟩
      rw [HDDU.out]
      refine ⟨rfl, w1.heap.size, rfl, HB1.out.size, ?_⟩
      rw [← HX.out]
      exact open_end HON.out HDY.out HLY.out HFY.out HDIS.out (fun k hk => Nat.le_trans HB1.out.size (HGN.out k hk).1) (by have := HB1.out.size; omega) HFD.out HGD.out
    · have hdec : decide (bl0 < s.size) = false := by simpa using hlt
      have hdd := HDD.out
      rw [if_neg hlt] at hdd
      have HDDU := Lib.hid hdd
      clear hdd
      obtain ⟨Y, rfl⟩ : ∃ Y, U = Y := ⟨_, rfl⟩
      have hlY := hlU
      have hpY := hpU
      have hKY := hKU
      have honY : Only F w U := Only.below hwU
      have hdY := hdU
      have hLY := hLU
      have hFY : ∀ k, F k → F k ∨ w.heap.size ≤ k := fun _ h => .inl h
      have hdisY : ∀ k, F k → ¬ G k := fun k hk hg => by have := hFlt k hk; have := (HGN.out k hg).1; omega
      have hFD : ∀ k, F k → k ≠ Db := fun k hk e => by have := hFlt k hk; omega
      clear hdU hLU hlU hpU hKU hwU hFlt hbU
      have q1 := cells_at hlY 2 _ rfl
      have q2 := cells_at hlY 3 _ rfl
      have q3 := cells_free hlY 3
      have qp := hpY.cell
      simp only [List.getElem_toArray, List.getElem_cons_succ, List.getElem_cons_zero] at q1 q2
      have HON := Lib.hid honY
      have HDY := Lib.hid hdY
      have HLY := Lib.hid hLY
      have HFY := Lib.hid hFY
      have HDIS := Lib.hid hdisY
      have HFD := Lib.hid hFD
      have HKY := Lib.hid hKY
      have HLB := Lib.hid hlY
      clear honY hdY hLY hFY hdisY hFD hKY hlY hpY
      gi_wp2_with fail
      refine wpIn_wide.2 ?_
      refine wp_region_still_tail 8 (by kernel_rfl) (by kernel_rfl) ?_
      simp only [List.take_succ_cons, List.take_zero, List.drop_succ_cons, List.drop_zero]
      change wpStill _ _ U.drew (fun a' => wpList _ _ _ _ a' U.drew) _ _
      repeat still_step
      refine wpStill_nil ?_
      go_wp2_with fail
      obtain ⟨X, hX⟩ : ∃ X, (U.setCell ⟨w1.heap.size, 3, none⟩ (.int .i64 (rs0.length : Int))).drew = X := ⟨_, rfl⟩
      have hXp : X.cell? ⟨w1.heap.size + 1, 0, none⟩ = some (.pointer (some ⟨w1.heap.size, 0, none⟩)) := by
        rw [← hX]
        exact (World.cell?_of_block (Below.heap_setCell _ _ _ _ (by simp))).trans qp
      have hXK : X.heap[Db]? = some (.deferred (some [])) := by rw [← hX]; exact (Below.heap_setCell _ _ _ _ (by show Db ≠ w1.heap.size; omega)).trans HKY.out
      have HX := Lib.hid hX
      have HXK := Lib.hid hXK
      rw [hX]
      clear hX hXK q1 q2 q3 qp
      gi_wp2_with fail
      refine ⟨by simp, .inl ⟨_, _, rfl, run_takeDeferred HXK.out, ?_⟩⟩
      refine ⟨_, results_tmp2 rfl _ _ _, .inl ?_⟩
      rw [HDDU.out]
      refine ⟨rfl, w1.heap.size, rfl, HB1.out.size, ?_⟩
      rw [← HX.out]
      exact open_end HON.out HDY.out HLY.out HFY.out HDIS.out (fun k hk => Nat.le_trans HB1.out.size (HGN.out k hk).1) (by have := HB1.out.size; omega) HFD.out HGD.out

theorem logopen_any (w : World) (d : Nat) (D : Dk.St) (F : Nat → Prop) (hd : DiskAt w d D F) (file : Int) (hr : (Dk.read D file).2 = 0) (hsz : (Dk.read D file).1.size ≤ 5000000) (hm : D.loose.length ≤ 1000000000)
    (hcut : (Dk.cut D file (Lg.bytesOf (Lg.parse (Dk.read D file).1)).length).1 = 0) (hsy : (Dk.sync (Dk.cut D file (Lg.bytesOf (Lg.parse (Dk.read D file).1)).length).2).1 = 0) :
    Calls Try.prog 44 #[ptr d 0, .int .i64 file] w fun e w' => ∃ l, e = .returned (.tuple #[ptr l 0, .int .i64 0]) ∧ w.heap.size ≤ l ∧ Turned2 w w' l d file (Lg.opened D file) ⟨Lg.parse (Dk.read D file).1, (Lg.parse (Dk.read D file).1).length⟩ F (fun _ => False) := by
  have ho : Lg.openL D file = (0, Lg.opened D file, ⟨Lg.parse (Dk.read D file).1, (Lg.parse (Dk.read D file).1).length⟩) := by
    unfold Lg.openL Lg.opened
    rw [if_neg (by simpa using hr)]
    split
    · rw [if_neg (by simpa using hcut), if_neg (by simpa using hsy)]
    · rfl
  refine (logopen_all w d D F hd file hsz hm).mono ?_
  intro e w' h
  unfold OpenL at h
  rw [ho] at h
  rcases h with ⟨-, h⟩ | ⟨h, -⟩
  · exact h
  · exact absurd rfl h

end Go.Proofs.Ytllecjhfbojgcaa
