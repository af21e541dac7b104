/-
  The walk through the statement FrameTakes.
-/
import Derived.Test.YthnellehndggpaaFrameWhole
import Derived.Test.YthnellehndggpaaFrameRefT
namespace Go.Proofs.Ythnellehndggpaa
open Go.RowKit Go.Shelf
attribute [local go_sem] Oper.semAt_some

theorem allF_count (f : Nat) : ∀ s : List UInt8, (Cl.allF f s).1.length ≤ s.length := by
  induction f with
  | zero => intro s; exact Nat.zero_le _
  | succ f ih =>
    intro s
    obtain ⟨c, t, n, x, ht⟩ : ∃ c t n x, Cl.takeF s = (c, t, n, x) := ⟨_, _, _, _, rfl⟩
    unfold Cl.allF
    rw [ht]
    split
    · exact Nat.zero_le _
    · rename_i hx
      have h0 : x = 0 := by simpa using hx
      subst h0
      obtain ⟨_, _, _, hle, _, _, h6⟩ := Cl.takeF_ok _ _ _ _ ht
      have := ih (s.drop n)
      rw [List.length_drop] at this
      simp only [List.length_cons]
      omega

theorem reads_cells2 {w : World} {a : Option Addr} {n c : Nat} {items : List (Nat × List UInt8)} (h : Reads w (.slice a n c) items.length (frCells items)) (hl : (frCells items).length = 2 * items.length) (k : Nat) (y : Nat × List UInt8) (hy : items[k]? = some y) :
    ∃ b o, a = some ⟨b, o, none⟩ ∧ items.length ≤ c ∧ w.cell? ⟨b, o + k * 2, none⟩ = some (.int .u8 y.1) ∧ w.cell? ⟨b, o + k * 2 + 1, none⟩ = some (.string ⟨y.2.toArray⟩) := by
  have hlt := (List.getElem?_eq_some_iff.1 hy).1
  obtain ⟨b, o, kk, hv, h1, _, _, hc⟩ := h.some (by omega)
  simp only [Value.slice.injEq] at hv
  obtain ⟨h1', _, h3⟩ := hv
  obtain ⟨g1, g2⟩ := frCells_at items k y hy
  rw [Nat.mul_comm] at g1 g2
  exact ⟨b, o, h1', by omega, hc _ _ g1, hc _ _ g2⟩

set_option maxHeartbeats 2000000 in
theorem frameTakes_long (s : ByteArray) (hl : 20000 < s.size) (w : World) :
    Calls Try.prog 15 #[.string s] w fun e w' => e = .returned (.bool true) ∧ Below w.heap.size w w' := by
  have hd : decide ((20000 : Int) < s.size) = true := by simp; omega
  go_enter Try.func15, Try.ntmps15
  go_wp2_with fail
  refine (fworks_any _).mono ?_
  rintro e w1 ⟨rfl, hb1⟩
  have hB1 := boxed_below (Boxed.new w 4 (.bool false)) hb1
  clear hl
  go_wp2_with fail
  refine (fworks_any _).mono ?_
  rintro e w2 ⟨rfl, hb2⟩
  have hB2 := boxed_below hB1 hb2
  have hc := hB2.cell
  have hf := hB2.frozen
  have hc2 := (hB2.set (.bool true)).cell
  go_wp2_with fail
  refine bodyPost_ret (v := .bool true) (by simp [results, Try.results15, go_sem, hc2]) rfl ⟨rfl, ?_⟩
  exact (bel_trans (bel_alloc w _) (bel_trans hb1 hb2)).setCell (p := ⟨w.heap.size, 0, none⟩) (Nat.le_refl _) _

set_option maxHeartbeats 4000000 in
theorem frameTakes_short (s : ByteArray) (hl : s.size ≤ 20000) (w : World) :
    Calls Try.prog 15 #[.string s] w fun e w' => e = .returned (.bool true) ∧ Below w.heap.size w w' := by
  refine (callsIn_wide (n := 3)).1 ?_
  have hd : decide ((20000 : Int) < s.size) = false := by simp; omega
  have HS : Hid (s.size ≤ 1000000) := Lib.hid (by omega)
  obtain ⟨c, t, m, x, ht⟩ : ∃ c t m x, Cl.takeF s.data.toList = (c, t, m, x) := ⟨_, _, _, _, rfl⟩
  have HT := Lib.hid ht
  obtain ⟨items, tot, hit⟩ : ∃ items tot, Cl.allF s.size s.data.toList = (items, tot) := ⟨_, _, rfl⟩
  have HI := Lib.hid hit
  clear ht hit hl
  refine callsIn_of_wp_marks Try.func15 rfl trivial ?_ rfl
  simp only [Try.ntmps15, List.size_toArray, List.length_cons, List.length_nil, Nat.reduceAdd, Nat.reduceSub, Array.replicate_succ, Array.replicate_zero, List.push_toArray, List.append_toArray, List.nil_append, List.cons_append]
  gi_wp2_with (refine ⟨trivial, ?_⟩; gi_at_call 32; refine (callsIn_wide.2 (fworks_any _)).mono ?_; rintro e w1 ⟨rfl, hb1⟩; have hB1 := boxed_below (Boxed.new w 4 (.bool false)) hb1)
  have hbw1 : Below w.heap.size w w1 := bel_trans (bel_alloc w _) hb1
  refine ⟨trivial, (callsIn_wide.2 (takef_tells s c m t x _ HS.out HT.out)).mono ?_⟩
  rintro e w2 ⟨rfl, hb2⟩
  have hB2 := boxed_below hB1 hb2
  have hbw2 := bel_trans hbw1 hb2
  clear hB1 hbw1 hb2 hb1
  gi_wp2_with fail
  refine ⟨trivial, (callsIn_wide.2 (reftakef_tells s c m t x _ HS.out HT.out)).mono ?_⟩
  rintro e w3 ⟨rfl, hb3⟩
  have hB3 := boxed_below hB2 hb3
  have hbw3 := bel_trans hbw2 hb3
  clear hB2 hbw2 hb3
  gi_wp2_with fail
  refine ⟨trivial, (callsIn_wide.2 (refall_any s items tot _ HS.out HI.out)).mono ?_⟩
  rintro e w4 ⟨lv, rfl, hr4, hb4⟩
  have hB4 := boxed_below hB3 hb4
  have hbw4 := bel_trans hbw3 hb4
  clear hB3 hbw3 hb4
  obtain ⟨a4, c4, rfl⟩ := hr4.shape
  gi_wp2_with fail
  refine ⟨trivial, (callsIn_wide.2 (all_any s _)).mono ?_⟩
  rintro e w5 ⟨rfl, rfl⟩
  gi_wp2_with fail
  obtain ⟨W0, hW0⟩ : ∃ W0, (((w4.alloc (Obj.cells #[Value.slice a4 items.length c4] 55)).alloc (Obj.cells #[Value.int IntKind.i64 0] 3)).alloc (Obj.cells #[Value.string s] 9)) = W0 := ⟨_, rfl⟩
  have hsz : W0.heap.size = w4.heap.size + 3 := by rw [← hW0]; simp
  have hbe : Below w4.heap.size w4 W0 := by rw [← hW0]; exact (((Below.refl _ w4).alloc (Nat.le_refl _) _).alloc (by simp) _).alloc (by simp; omega) _
  have hbl : Boxed W0 w4.heap.size 55 (.slice a4 items.length c4) := by rw [← hW0]; exact ((Boxed.new w4 _ _).alloc _).alloc _
  have hbi : Boxed W0 (w4.heap.size + 1) 3 (.int .i64 0) := by
    rw [← hW0]
    have := Boxed.new (w4.alloc (Obj.cells #[Value.slice a4 items.length c4] 55)) 3 (.int .i64 0)
    rw [World.size_alloc] at this
    exact this.alloc _
  have hbs : Boxed W0 (w4.heap.size + 1 + 1) 9 (.string s) := by
    rw [← hW0]
    have := Boxed.new ((w4.alloc (Obj.cells #[Value.slice a4 items.length c4] 55)).alloc (Obj.cells #[Value.int IntKind.i64 0] 3)) 9 (.string s)
    rwa [World.size_alloc, World.size_alloc] at this
  have hlt4 := hB4.lt
  have HB4 := Lib.hid hB4
  have HW4 := Lib.hid hbw4
  have HR4 := Lib.hid hr4
  rw [hW0]
  clear hW0 hr4 hB4 hbw4
  have hgv : Gives Fence.wide (3 - 1) Try.prog 47 #[.pointer (some ⟨w4.heap.size + 1 + 1, 0, none⟩)] frameV items (w4.heap.size + 1 + 1) W0 := by
    have := all_gives s HS.out (3 - 1) (by decide) _ _ hbs
    rw [HI.out] at this
    exact this
  have hlen : items.length ≤ 1000000 := by
    have h1 := allF_count s.size s.data.toList
    rw [HI.out, len_data] at h1
    simp only at h1
    have := HS.out
    omega
  refine over_items' (F := Fence.wide) rfl (by decide) rfl trivial (enters_of Try.func47 (by kernel_rfl) rfl) (by omega) hgv (fun _ => rfl)
    (fun k W => Boxed W (w4.heap.size + 1) 3 (.int .i64 k) ∧ (Boxed W w4.heap.size 55 (.slice a4 items.length c4) ∧ (Below w4.heap.size w4 W ∧ w4.heap.size + 3 ≤ W.heap.size))) (fun _ _ _ => False)
    (fun k => (Stands.block (by omega) (by omega)).and ((Stands.block (by omega) (by omega)).and ((Stands.below (by omega) (by omega) (Nat.le_refl _)).and Stands.size))) (fun _ _ _ _ _ h _ _ => h)
    ⟨hbi, hbl, hbe, by omega⟩ ?hround ?done ?stop
  case hround =>
    apply Exists.intro
    apply And.intro
    · intro l y W K hK
      simp only [frameV]
      gi_wp2
      exact hK
    · rintro l k y W hy ⟨hi, hl, hB, hge⟩
      have hci := hi.cell
      have hfi := hi.frozen
      have hcl := hl.cell
      have hk := (List.getElem?_eq_some_iff.1 hy).1
      obtain ⟨b, o, rfl, hcap, hc0⟩ := reads_cells2 (HR4.out.below hB) (frCells_len items) k y hy
      obtain ⟨hc0, hc1⟩ := hc0
      have hdk : decide (items.length ≤ k) = false := by simp; omega
      have HBI := Lib.hid hi
      have HBL := Lib.hid hl
      clear hbl hbi hbs hbe hgv hi hl hd
      gi_wp2
      refine ⟨keeps_set (KeepsFrom.refl _ _) _ _, Below.heap_setCell _ _ _ _ (by simp), ?_, ?_, ?_, ?_⟩
      · have := HBI.out.set (.int .i64 ((k : Int) + 1))
        rw [show ((k + 1 : Nat) : Int) = (k : Int) + 1 by omega]
        exact this
      · exact (Below.heap_setCell _ _ _ _ (by simp)).trans HBL.out
      · exact hB.setCell (p := ⟨w4.heap.size + 1, 0, none⟩) (by simp) _
      · simp; omega
  case done =>
    rintro D W hD ⟨hi, hl, hB, hge⟩ hK
    have hci := hi.cell
    have hcl := hl.cell
    clear hbl hbi hbs hbe hgv hi hl hd
    gi_wp2_with fail
    refine ⟨trivial, (callsIn_wide.2 (whole_any s _ HS.out)).mono ?_⟩
    rintro e w5 ⟨rfl, hb5⟩
    rw [HI.out]
    have hK5 := (hb5.block D (Array.getElem?_eq_some_iff.1 hK).1).trans hK
    have hB5 := bel_trans hB hb5
    clear hci hcl
    gi_wp2_with fail
    refine ⟨trivial, (callsIn_wide.2 (fworks_any _)).mono ?_⟩
    rintro e w6 ⟨rfl, hb6⟩
    have hK6 := (hb6.block D (Array.getElem?_eq_some_iff.1 hK5).1).trans hK5
    have hB6 := bel_trans hB5 hb6
    have hbr := boxed_below HB4.out hB6
    have hc := hbr.cell
    have hf := hbr.frozen
    have hc2 := (hbr.set (.bool true)).cell
    gi_wp2_with fail
    have hDw : D ≠ w.heap.size := by omega
    have hK7 : (w6.setCell ⟨w.heap.size, 0, none⟩ (.bool true)).heap[D]? = some (.deferred (some [])) := (Below.heap_setCell _ _ _ _ hDw).trans hK6
    refine ⟨by simp, .inl ⟨_, _, rfl, run_takeDeferred hK7, ?_⟩⟩
    have hc3 : ((w6.setCell ⟨w.heap.size, 0, none⟩ (.bool true)).putObj D (.deferred none)).cell? ⟨w.heap.size, 0, none⟩ = some (.bool true) := cell_kept hc2 (grownBy_putObj' _ D (.deferred none)) (fun r e => by cases e; exact ⟨_, hK7, rfl⟩)
    refine ⟨.bool true, by simp [results, Try.results15, go_sem, hc3], rfl, ?_⟩
    have hbel : Below w.heap.size w (w6.setCell ⟨w.heap.size, 0, none⟩ (.bool true)) := (bel_trans HW4.out hB6).setCell (p := ⟨w.heap.size, 0, none⟩) (Nat.le_refl _) _
    exact hbel.trans (belowK_b (w := w) (Nat.le_refl _) _ D _ _ (by omega) hK7 rfl rfl)
  case stop =>
    rintro D c k W _ _ h _
    exact h.elim

theorem frameTakes_walk (s : ByteArray) (hs : s.size ≤ 140737488351232) (w : World) :
    Calls Try.prog 15 #[.string s] w fun e w' => e = .returned (.bool true) ∧ Below w.heap.size w w' := by
  by_cases h : 20000 < s.size
  · exact frameTakes_long s h w
  · exact frameTakes_short s (by omega) w

end Go.Proofs.Ythnellehndggpaa
