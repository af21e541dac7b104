/-
  The walks through frame.All's maker and frame.Whole.
-/
import Derived.Test.YthnellehndggpaaFrameAll
namespace Go.Proofs.Ythnellehndggpaa
open Go.RowKit Go.Shelf
attribute [local go_sem] Oper.semAt_some

theorem all_any (s : ByteArray) (w : World) :
    Calls Try.prog 34 #[.string s] w fun e w' => e = .returned (.func (.func 47) #[] #[.pointer (some ⟨w.heap.size, 0, none⟩)]) ∧ w.alloc (.cells #[.string s] 9) = w' := by
  go_enter Try.func34, Try.ntmps34
  go_wp2_with fail
  go_ret
  exact ⟨rfl, rfl⟩

/-- The bytes of the frames. -/
def lens (l : List (Nat × List UInt8)) : Nat := (l.map fun y => (Cl.putF (UInt8.ofNat y.1) y.2).length).sum
theorem lens_snoc (l : List (Nat × List UInt8)) (k : Nat) (y : Nat × List UInt8) (h : l[k]? = some y) : lens (l.take (k + 1)) = lens (l.take k) + (Cl.putF (UInt8.ofNat y.1) y.2).length := by
  unfold lens
  rw [List.take_add_one, h]
  simp

theorem of_toNat (c : UInt8) : UInt8.ofNat c.toNat = c := by simp

theorem allF_is (f : Nat) : ∀ s : List UInt8, (∀ y ∈ (Cl.allF f s).1, ∃ c : UInt8, y.1 = c.toNat ∧ c.toNat ≠ 0 ∧ y.2.length ≤ 65536) ∧ lens (Cl.allF f s).1 = (Cl.allF f s).2 ∧ (Cl.allF f s).2 ≤ s.length := by
  induction f with
  | zero => intro s; exact ⟨by simp [Cl.allF], rfl, Nat.zero_le _⟩
  | succ f ih =>
    intro s
    obtain ⟨c, t, n, x, ht⟩ : ∃ c t n x, Cl.takeF s = (c, t, n, x) := ⟨_, _, _, _, rfl⟩
    by_cases hx : x = 0
    · subst hx
      obtain ⟨cc, rfl, hcc, hmle, hput, ht2, hm6⟩ := Cl.takeF_ok s _ _ _ ht
      have e : Cl.allF (f + 1) s = ((cc.toNat, t) :: (Cl.allF f (s.drop n)).1, n + (Cl.allF f (s.drop n)).2) := by
        conv => lhs; unfold Cl.allF
        rw [ht]
        simp
      rw [e]
      obtain ⟨h1, h2, h3⟩ := ih (s.drop n)
      have hlen : (Cl.putF cc t).length = n := by rw [← hput]; simp; omega
      refine ⟨?_, ?_, ?_⟩
      · intro y hy
        simp only [List.mem_cons] at hy
        rcases hy with rfl | hy
        · exact ⟨cc, rfl, hcc, ht2⟩
        · exact h1 y hy
      · show lens ((cc.toNat, t) :: _) = _
        unfold lens at h2 ⊢
        simp only [List.map_cons, List.sum_cons, of_toNat, hlen, h2]
      · rw [List.length_drop] at h3
        simp only
        omega
    · have e : Cl.allF (f + 1) s = ([], 0) := by
        unfold Cl.allF
        rw [ht, if_pos hx]
      rw [e]
      exact ⟨by simp, rfl, Nat.zero_le _⟩
theorem lens_le (l : List (Nat × List UInt8)) (k : Nat) : lens (l.take k) ≤ lens l := by
  conv => rhs; rw [← List.take_append_drop k l]
  unfold lens
  rw [List.map_append, List.sum_append]
  omega

theorem putf_item (y : Nat × List UInt8) (w : World) (h : ∃ c : UInt8, y.1 = c.toNat ∧ c.toNat ≠ 0 ∧ y.2.length ≤ 65536) :
    Calls Try.prog 30 #[.int .u8 y.1, .string ⟨y.2.toArray⟩] w fun e w' => e = .returned (.tuple #[.string ⟨(Cl.putF (UInt8.ofNat y.1) y.2).toArray⟩, .int .i64 0]) ∧ Below w.heap.size w w' := by
  obtain ⟨c, hc, h0, hl⟩ := h
  refine (putf_n y.1 c ⟨y.2.toArray⟩ (Cl.putF (UInt8.ofNat y.1) y.2) w (by rw [hc]) h0 (by rw [size_mk]; exact hl) ?_)
  rw [hc, of_toNat]

set_option maxHeartbeats 2000000 in
theorem whole_any (s : ByteArray) (w : World) (hs : s.size ≤ 1000000) :
    Calls Try.prog 37 #[.string s] w fun e w' => e = .returned (.int .i64 (Cl.allF s.size s.data.toList).2) ∧ Below w.heap.size w w' := by
  refine (callsIn_wide (n := 3)).1 ?_
  obtain ⟨hitems, htot, hle⟩ := allF_is s.size s.data.toList
  rw [len_data] at hle
  have HI := Lib.hid hitems
  have HT := Lib.hid htot
  have HS := Lib.hid hs
  clear hitems htot
  obtain ⟨items, hit⟩ : ∃ items, (Cl.allF s.size s.data.toList).1 = items := ⟨_, rfl⟩
  rw [hit] at HI HT
  have HE := Lib.hid hit
  clear hit
  refine callsIn_of_wp_marks Try.func37 rfl trivial ?_ rfl
  simp only [Try.ntmps37, List.size_toArray, List.length_cons, List.length_nil, Nat.reduceAdd, Nat.reduceSub, Array.replicate_succ, Array.replicate_zero, List.push_toArray, List.append_toArray, List.nil_append, List.cons_append]
  gi_wp2_with (refine ⟨trivial, ?_⟩; gi_at_call 34; refine (callsIn_wide.2 (all_any s _)).mono ?_; rintro e w' ⟨rfl, rfl⟩)
  obtain ⟨W0, hW0⟩ : ∃ W0, ((w.alloc (Obj.cells #[Value.int IntKind.i64 0] 3)).alloc (Obj.cells #[Value.string s] 9)) = W0 := ⟨_, rfl⟩
  have hsz : W0.heap.size = w.heap.size + 2 := by rw [← hW0]; simp
  have hn0 : Boxed W0 w.heap.size 3 (.int .i64 0) := by rw [← hW0]; exact (Boxed.new w 3 _).alloc _
  have hs0 : Boxed W0 (w.heap.size + 1) 9 (.string s) := by rw [← hW0]; have := Boxed.new (w.alloc (Obj.cells #[Value.int IntKind.i64 0] 3)) 9 (.string s); rwa [World.size_alloc] at this
  have hb0 : Below w.heap.size w W0 := by rw [← hW0]; exact ((Below.refl _ w).alloc (Nat.le_refl _) _).alloc (by simp) _
  rw [hW0]
  clear hW0
  have hgv : Gives Fence.wide (3 - 1) Try.prog 47 #[.pointer (some ⟨w.heap.size + 1, 0, none⟩)] frameV items (w.heap.size + 1) W0 := by
    rw [← HE.out]; exact all_gives s HS.out _ (by decide) _ _ hs0
  refine over_items (F := Fence.wide) rfl (by decide) rfl trivial (enters_of Try.func47 (by kernel_rfl) rfl) (by omega) hgv (fun _ => rfl)
    (fun k W => Boxed W w.heap.size 3 (.int .i64 (lens (items.take k))) ∧ Below w.heap.size w W ∧ w.heap.size + 2 ≤ W.heap.size) (fun _ _ _ => False)
    (fun k => (Stands.block (by omega) (by omega)).and ((Stands.below (by omega) (by omega) (Nat.le_refl _)).and Stands.size)) (fun _ _ _ _ _ h _ _ => h)
    ⟨hn0, hb0, by omega⟩
    (fun y => { tmps := #[.string s, undef, .int .i64 0, .pointer (some ⟨w.heap.size, 0, none⟩), .int .u8 y.1, .string ⟨y.2.toArray⟩, undef, undef, .string s, .func (.func 47) #[] #[.pointer (some ⟨w.heap.size + 1, 0, none⟩)], .int .u8 y.1, .string ⟨y.2.toArray⟩, undef, undef, undef, undef, undef, undef, undef, undef, undef, undef, undef], defers := [] }) ?assign ?body ?done ?stop
  case assign =>
    intro l y W K hK
    simp only [frameV]
    gi_wp2
    exact hK
  case body =>
    rintro l k y W hy ⟨hn, hB, hge⟩
    have hp := HI.out y (List.mem_of_getElem? hy)
    have hstep := lens_snoc items k y hy
    have htl := lens_le items (k + 1)
    rw [HT.out] at htl
    have HST := Lib.hid hstep
    have HP := Lib.hid hp
    have hlt := hn.lt
    have hc := hn.cell
    obtain ⟨q, hq⟩ : ∃ q, (Cl.putF (UInt8.ofNat y.1) y.2) = q := ⟨_, rfl⟩
    rw [hq] at HST
    have hql : q.length ≤ 1000000 := by have := HST.out; have := HS.out; omega
    have hll : lens (items.take k) ≤ 1000000 := by have := HST.out; have := HS.out; omega
    have hqs := size_mk q
    have HQ := Lib.hid hq
    clear hq hy hstep hp htl
    gi_wp2_with (refine ⟨trivial, ?_⟩; gi_at_call 30; refine (CallsIn.inRound l (callsIn_wide.2 (putf_item y _ HP.out))).mono ?_; rintro e w' ⟨rfl, hb1⟩; rw [HQ.out]; have hc1 := (hb1.cell (p := ⟨w.heap.size, 0, none⟩) hlt).trans hc; have hf1 : w'.frozen? ⟨w.heap.size, 0, none⟩ = false := (Boxed.frozen ((hb1.block _ hlt).trans hn)))
    have hn1 : Boxed w' w.heap.size 3 (.int .i64 (lens (items.take k))) := (hb1.block _ hlt).trans hn
    refine ⟨keeps_set (keeps_below hb1) _ _, (Below.heap_setCell _ _ _ _ (by simp)).trans (hb1.block _ (by omega)), ?_, ?_, ?_⟩
    · have := hn1.set (.int .i64 ((lens (items.take k) : Int) + (q.length : Int)))
      rw [HST.out]
      exact this
    · exact (hB.trans (hb1.mono hB.size)).setCell (p := ⟨w.heap.size, 0, none⟩) (Nat.le_refl _) _
    · have := hb1.size
      have e : (w'.setCell ⟨w.heap.size, 0, none⟩ (.int .i64 ((lens (items.take k) : Int) + (q.length : Int)))).heap.size = w'.heap.size := by simp
      omega
  case done =>
    rintro D W hD ⟨hn, hB, hge⟩ hK
    have hc := hn.cell
    gi_wp2
    refine ⟨by simp, .inl ⟨_, _, rfl, run_takeDeferred hK, ?_⟩⟩
    refine ⟨_, results_tmp rfl _ _ _, ?_, hB.trans (belowK_b (w := w) (Nat.le_refl _) W D _ _ (by omega) hK rfl rfl)⟩
    rw [HT.out]
    rfl
  case stop =>
    rintro D c k W _ _ h _
    exact h.elim

end Go.Proofs.Ythnellehndggpaa
