/-
  Open of a file without bytes; no disk, or one that cannot be read.
-/
import Derived.Test.YtllecjhfbojgcaaLogPut
import Derived.Test.YtllecjhfbojgcaaFrameAll
namespace Go.Proofs.Ytllecjhfbojgcaa
open Go.RowKit Go.Shelf
set_option maxRecDepth 20000
attribute [local go_sem] Oper.semAt_some

theorem logopen_nil (file : Int) (w : World) : Calls Try.prog 44 #[.pointer none, .int .i64 file] w fun e w' => e = .returned (.tuple #[.pointer none, .int .i64 1]) ∧ w = w' := by
  go_enter Try.func44, Try.ntmps44
  go_wp2_with fail
  go_ret2
  exact ⟨rfl, rfl⟩

theorem logopen_off (w : World) (d : Nat) (D : Dk.St) (F : Nat → Prop) (hd : DiskAt w d D F) (file : Int) (hr : (Dk.read D file).2 ≠ 0) :
    Calls Try.prog 44 #[ptr d 0, .int .i64 file] w fun e w' => e = .returned (.tuple #[.pointer none, .int .i64 (Dk.read D file).2]) ∧ Below w.heap.size w w' := by
  obtain ⟨x, hx⟩ : ∃ x, (Dk.read D file).2 = x := ⟨_, rfl⟩
  obtain ⟨s, hs⟩ : ∃ s, (Dk.read D file).1 = s := ⟨_, rfl⟩
  have hrd := read_any w d D F hd file
  rw [hx] at hr
  rw [hx, hs] at hrd
  rw [hx]
  have hz : (x != 0) = true := by simpa using hr
  have HRD := Lib.hid hrd
  clear hr hx hs hrd hd
  unfold ptr at HRD ⊢
  go_enter Try.func44, Try.ntmps44
  go_wp2_with fail
  refine HRD.out.mono ?_
  rintro e w1 ⟨rfl, hb1⟩
  go_wp2_with fail
  go_ret2
  exact ⟨rfl, hb1⟩

theorem all_maker (s : ByteArray) (w : World) :
    Calls Try.prog 82 #[.string s] w fun e w' => e = .returned (.func (.func 102) #[] #[.pointer (some ⟨w.heap.size, 0, none⟩)]) ∧ w.alloc (.cells #[.string s] 9) = w' := by
  go_enter Try.func82, Try.ntmps82
  go_wp2_with fail
  go_ret
  exact ⟨rfl, rfl⟩

set_option maxHeartbeats 4000000 in
theorem logopen_fresh (w : World) (d : Nat) (D : Dk.St) (F : Nat → Prop) (hd : DiskAt w d D F) (file : Int) (hr : Dk.read D file = (⟨#[]⟩, 0)) :
    Calls Try.prog 44 #[ptr d 0, .int .i64 file] w fun e w' => ∃ l, e = .returned (.tuple #[ptr l 0, .int .i64 0]) ∧ w.heap.size ≤ l ∧ Below w.heap.size w w' ∧ LogAt w' l d file ⟨[], 0⟩ (fun k => k = l) := by
  refine (callsIn_wide (n := 3)).1 ?_
  have hrd := read_any w d D F hd file
  rw [hr] at hrd
  have HRD := Lib.hid hrd
  clear hr hrd hd
  unfold ptr at HRD
  show CallsIn _ _ _ _ #[.pointer (some ⟨d, 0, none⟩), _] _ _
  refine callsIn_of_wp_marks Try.func44 rfl trivial ?_ rfl
  simp only [Try.ntmps44, List.size_toArray, List.length_cons, List.length_nil, Nat.reduceAdd, Nat.reduceSub, Array.replicate_succ, Array.replicate_zero, List.push_toArray, List.append_toArray, List.nil_append, List.cons_append]
  gi_wp2_with (refine ⟨trivial, ?_⟩; gi_at_call 61; refine (callsIn_wide.2 HRD.out).mono ?_; rintro e w1 ⟨rfl, hb1⟩)
  have HB1 := Lib.hid hb1
  clear hb1
  refine ⟨trivial, (callsIn_wide.2 (all_maker _ _)).mono ?_⟩
  rintro e w' ⟨rfl, rfl⟩
  gi_wp2_with fail
  obtain ⟨W0, hW0⟩ : ∃ W0, ((w1.alloc (.cells #[.pointer (some ⟨d, 0, none⟩), .int .i64 file, .slice none 0 0, .int .i64 0] 155)).alloc (.cells #[.pointer (some ⟨w1.heap.size, 0, none⟩)] 93)).alloc (.cells #[.string ⟨#[]⟩] 9) = W0 := ⟨_, rfl⟩
  have hsz : W0.heap.size = w1.heap.size + 3 := by rw [← hW0]; simp
  have hbe : Below w1.heap.size w1 W0 := by rw [← hW0]; exact bel_trans (bel_trans (bel_alloc _ _) (bel_alloc _ _)) (bel_alloc _ _)
  have hl0 : W0.heap[w1.heap.size]? = some (.cells #[.pointer (some ⟨d, 0, none⟩), .int .i64 file, .slice none 0 0, .int .i64 0] 155) := by
    rw [← hW0]
    exact (Below.heap_alloc _ _ _ (by simp; omega)).trans ((Below.heap_alloc _ _ _ (by simp)).trans (heap_alloc_new w1 _))
  have hp0 : Boxed W0 (w1.heap.size + 1) 93 (.pointer (some ⟨w1.heap.size, 0, none⟩)) := by
    rw [← hW0]
    have := Boxed.new (w1.alloc (.cells #[.pointer (some ⟨d, 0, none⟩), .int .i64 file, .slice none 0 0, .int .i64 0] 155)) 93 (.pointer (some ⟨w1.heap.size, 0, none⟩))
    rw [World.size_alloc] at this
    exact this.alloc _
  have hs0 : Boxed W0 (w1.heap.size + 2) 9 (.string ⟨#[]⟩) := by
    rw [← hW0]
    have := Boxed.new ((w1.alloc (.cells #[.pointer (some ⟨d, 0, none⟩), .int .i64 file, .slice none 0 0, .int .i64 0] 155)).alloc (.cells #[.pointer (some ⟨w1.heap.size, 0, none⟩)] 93)) 9 (.string ⟨#[]⟩)
    rwa [World.size_alloc, World.size_alloc] at this
  rw [hW0]
  clear hW0
  have hgv : Gives Fence.wide (3 - 1) Try.prog 102 #[.pointer (some ⟨w1.heap.size + 2, 0, none⟩)] frameV [] (w1.heap.size + 2) W0 := all_gives ⟨#[]⟩ (by decide) _ (by decide) _ _ hs0
  refine over_items' (F := Fence.wide) rfl (by decide) rfl trivial (enters_of Try.func102 (by kernel_rfl) rfl) (by omega) hgv (fun _ => rfl)
    (fun _ W => W.heap[w1.heap.size]? = some (.cells #[.pointer (some ⟨d, 0, none⟩), .int .i64 file, .slice none 0 0, .int .i64 0] 155) ∧ (Boxed W (w1.heap.size + 1) 93 (.pointer (some ⟨w1.heap.size, 0, none⟩)) ∧ (Below w1.heap.size w1 W ∧ w1.heap.size + 3 ≤ W.heap.size))) (fun _ _ _ => False)
    (fun k => (Stands.block (by omega) (by omega)).and ((Stands.block (by omega) (by omega)).and ((Stands.below (by omega) (by omega) (Nat.le_refl _)).and Stands.size))) (fun _ _ _ _ _ h _ _ => h)
    ⟨hl0, hp0, hbe, by omega⟩ ?hround ?done ?stop
  case hround =>
    apply Exists.intro
    apply And.intro
    · intro l y W K hK
      simp only [frameV]
      gi_wp2
      exact hK
    · rintro l k y W hy
      simp at hy
  case stop =>
    rintro D c k W _ _ h _
    exact h.elim
  case done =>
    rintro Db W hD ⟨hl, hp, hB, hge⟩ hK
    have hcp := hp.cell
    have hcl := cells_at hl 2 _ rfl
    simp only [List.getElem_toArray, List.getElem_cons_succ, List.getElem_cons_zero] at hcl
    have HLW := Lib.hid hl
    have HK := Lib.hid hK
    have HB := Lib.hid hB
    have HP := Lib.hid hp
    clear hl hK hB hp hgv hl0 hp0 hs0 hbe
    have hla : ∀ n, LogAt (W.drewN n) w1.heap.size d file ⟨[], 0⟩ (fun k => k = w1.heap.size) := fun n =>
      ⟨rfl, fun k hk => by have h : (W.drewN n).heap.size = W.heap.size := rfl; omega, by simp [Lg.bytesOf], Nat.le_refl _, _, HLW.out, .inl (World.ownsRow_nil _ _ _ _), fun g hg => by cases hg⟩
    have HLA := Lib.hid hla
    clear hla
    gi_wp2_with fail
    refine wpIn_wide.2 ?_
    go_quiet ((go_at_call 84; exact Calls.quiet_of_same ((logend_any _ w1.heap.size d file _ _ (HLA.out _) 0 (Nat.le_refl _)).mono (fun e w' h => ⟨h.1, h.2.symm⟩))))
    rw [Lg.ends_zero]
    obtain ⟨U, hU⟩ : ∃ U, W.drewN nq = U := ⟨_, rfl⟩
    rw [hU]
    have hbU : Below W.heap.size W U := by rw [← hU]; exact bel_drewN _ _
    have hUs : U.heap.size = W.heap.size := by rw [← hU]; rfl
    clear hU hcp hcl
    have hlU := (hbU.block _ (by omega)).trans HLW.out
    have hpU := boxed_below HP.out hbU
    have hcp := hpU.cell
    have hc2 := cells_at hlU 2 _ rfl
    have hc3 := cells_at hlU 3 _ rfl
    have hf3 := cells_free hlU 3
    simp only [List.getElem_toArray, List.getElem_cons_succ, List.getElem_cons_zero] at hc2 hc3
    have hne : w1.heap.size + 1 ≠ w1.heap.size := by omega
    have HKU := Lib.hid ((hbU.block _ (Array.getElem?_eq_some_iff.1 HK.out).1).trans HK.out)
    have HLU := Lib.hid hlU
    have HPU := Lib.hid hpU
    have HBU := Lib.hid (bel_trans HB1.out (HB.out.trans (hbU.mono (by omega))))
    clear hlU hpU hbU
    gi_wp2_with fail
    refine wpIn_wide.2 ?_
    refine wp_region_still_tail 8 (by kernel_rfl) (by kernel_rfl) ?_
    simp only [List.take_succ_cons, List.take_zero, List.drop_succ_cons, List.drop_zero]
    change wpStill _ _ U.drew (fun a' => wpList _ _ _ _ a' U.drew) _ _
    repeat still_step
    refine wpStill_nil ?_
    go_wp2_with fail
    have hset : (U.setCell ⟨w1.heap.size, 3, none⟩ (.int .i64 0)).heap[w1.heap.size]? = some (.cells #[.pointer (some ⟨d, 0, none⟩), .int .i64 file, .slice none 0 0, .int .i64 0] 155) := by rw [cells_set HLU.out]; rfl
    have hp2 : Boxed (U.setCell ⟨w1.heap.size, 3, none⟩ (.int .i64 0)) (w1.heap.size + 1) 93 (.pointer (some ⟨w1.heap.size, 0, none⟩)) := (Below.heap_setCell _ _ _ _ (by simp)).trans HPU.out
    have hcp2 := hp2.cell
    have HSET := Lib.hid hset
    clear hset hp2
    obtain ⟨X, hX⟩ : ∃ X, (U.setCell ⟨w1.heap.size, 3, none⟩ (.int .i64 0)).drew = X := ⟨_, rfl⟩
    have hXp : X.cell? ⟨w1.heap.size + 1, 0, none⟩ = some (.pointer (some ⟨w1.heap.size, 0, none⟩)) := by rw [← hX]; exact hcp2
    have hXl : X.heap[w1.heap.size]? = some (.cells #[.pointer (some ⟨d, 0, none⟩), .int .i64 file, .slice none 0 0, .int .i64 0] 155) := by rw [← hX]; exact HSET.out
    have hXK : X.heap[Db]? = some (.deferred (some [])) := by rw [← hX]; exact (Below.heap_setCell _ _ _ _ (by show Db ≠ w1.heap.size; omega)).trans HKU.out
    have hs1 := HB1.out.size
    have hXB : Below w.heap.size w X := by rw [← hX]; exact (HBU.out.setCell (p := ⟨w1.heap.size, 3, none⟩) (by show w.heap.size ≤ w1.heap.size; exact hs1) _).drew
    have hXs : X.heap.size = W.heap.size := by rw [← hX]; simpa using hUs
    rw [hX]
    have HXL := Lib.hid hXl
    have HXK := Lib.hid hXK
    have HXB := Lib.hid hXB
    have HXS := Lib.hid hXs
    clear hX hXl hXK hXB hXs hcp hcp2 hc2 hc3 hf3 hUs
    gi_wp2_with fail
    refine ⟨by simp, .inl ⟨_, _, rfl, run_takeDeferred HXK.out, ?_⟩⟩
    have hDb := HXK.out
    have hXs := HXS.out
    have hlb : (X.putObj Db (.deferred none)).heap[w1.heap.size]? = some (.cells #[ptr d 0, .int .i64 file, .slice none 0 0, .int .i64 ((0 : Nat) : Int)] 155) := (World.putObj_heap_other (by omega)).trans HXL.out
    have hbel : Below w.heap.size w (X.putObj Db (.deferred none)) := HXB.out.trans (belowK_b (w := w) (Nat.le_refl _) X Db _ _ (by omega) hDb rfl rfl)
    refine ⟨_, results_tmp2 rfl _ _ _, ⟨w1.heap.size, rfl, hs1, hbel, ⟨rfl, fun k hk => ?_, by simp [Lg.bytesOf], Nat.le_refl _, _, hlb, .inl (World.ownsRow_nil _ _ _ _), fun g hg => by cases hg⟩⟩⟩
    have hk : k = w1.heap.size := hk
    have := (Array.getElem?_eq_some_iff.1 hlb).1
    omega

end Go.Proofs.Ytllecjhfbojgcaa
