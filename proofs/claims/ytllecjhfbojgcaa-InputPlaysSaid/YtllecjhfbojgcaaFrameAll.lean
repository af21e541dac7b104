/-
  The iterator frame.All: what it hands over.
-/
import Derived.Test.YtllecjhfbojgcaaFrameWalks
import Derived.Test.YtllecjhfbojgcaaRangeOver
import Derived.RangeFuncNested
import Derived.RangeFuncBound
import Derived.Shelf.Abstract
import Derived.Shelf.RegionOpen
import Derived.OwnWalkIn
import Derived.TacticsInMore
import Derived.LoopNIn
import Derived.LoopIn
import Derived.Outline
namespace Go.Proofs.Ytllecjhfbojgcaa
open Go.RowKit Go.Shelf
set_option maxRecDepth 20000
attribute [local go_sem] Oper.semAt_some

/-- A frame, as the loop is handed it. -/
def frameV (y : Nat × List UInt8) : Array Value := #[.int .u8 y.1, .string ⟨y.2.toArray⟩]

theorem grown_of_below {w w' : World} (h : Below w.heap.size w w') (row : Option Nat) : w.grownBy w' row := ⟨h.os, h.tape, h.output, h.size, fun k hk _ => h.block k hk⟩

/-- Where the iterator stands: k frames have come, tb is left. -/
def AllAt (s : ByteArray) (k : Nat) (tb : ByteArray) : Prop := ∃ f, tb.size ≤ f ∧ (Cl.allF s.size s.data.toList).1.drop k = (Cl.allF f tb.data.toList).1 ∧ k ≤ (Cl.allF s.size s.data.toList).1.length ∧ tb.size ≤ s.size
theorem AllAt.start (s : ByteArray) : AllAt s 0 s := ⟨s.size, Nat.le_refl _, by rw [List.drop_zero], Nat.zero_le _, Nat.le_refl _⟩
theorem AllAt.done {s tb : ByteArray} {k : Nat} (h : AllAt s k tb) (hx : (Cl.takeF tb.data.toList).2.2.2 ≠ 0) : k = (Cl.allF s.size s.data.toList).1.length := by
  obtain ⟨f, _, h2, h3, _⟩ := h
  have e : (Cl.allF f tb.data.toList).1 = [] := by
    cases f with
    | zero => rfl
    | succ f => unfold Cl.allF; rw [if_pos hx]
  rw [e] at h2
  have := congrArg List.length h2
  rw [List.length_drop, List.length_nil] at this
  omega
theorem AllAt.next {s tb : ByteArray} {k c n : Nat} {t : List UInt8} (h : AllAt s k tb) (ht : Cl.takeF tb.data.toList = (c, t, n, 0)) (hn : 0 < n) (hle : n ≤ tb.size) :
    (Cl.allF s.size s.data.toList).1[k]? = some (c, t) ∧ AllAt s (k + 1) (tb.extract n tb.size) := by
  obtain ⟨f, h1, h2, h3, h4⟩ := h
  obtain ⟨g, rfl⟩ : ∃ g, f = g + 1 := ⟨f - 1, by omega⟩
  have e : (Cl.allF (g + 1) tb.data.toList).1 = (c, t) :: (Cl.allF g (tb.data.toList.drop n)).1 := by
    conv => lhs; unfold Cl.allF
    rw [ht]
    simp
  rw [e] at h2
  have hk : (Cl.allF s.size s.data.toList).1[k]? = some (c, t) := by
    have := congrArg (fun l : List (Nat × List UInt8) => l[0]?) h2
    simpa [List.getElem?_drop] using this
  refine ⟨hk, g, ?_, ?_, ?_, ?_⟩
  · simp; omega
  · have h5 := congrArg List.tail h2
    rw [List.tail_drop, List.tail_cons] at h5
    rw [h5, Lib.extract_data, List.take_of_length_le (by rw [List.length_drop]; simp)]
  · exact (List.getElem?_eq_some_iff.1 hk).1
  · simp; omega

set_option maxHeartbeats 2000000 in
theorem all_gives (s : ByteArray) (hs : s.size ≤ 5000000) (n : Nat) (hn : 1 ≤ n) (B : Nat) (w : World) (hb : Boxed w B 9 (.string s)) :
    Gives Fence.wide n Try.prog 102 #[.pointer (some ⟨B, 0, none⟩)] frameV (Cl.allF s.size s.data.toList).1 B w := fun l J Jx W hW hJ hY h0 => by
  refine callsIn_of_wp Try.func102 rfl trivial ?_ rfl
  simp only [Try.ntmps102, List.size_toArray, List.length_cons, List.length_nil, Nat.reduceAdd, Nat.reduceSub, Array.replicate_succ, Array.replicate_zero, List.push_toArray, List.append_toArray, List.nil_append, List.cons_append]
  have hbW : Boxed W B 9 (.string s) := hW.trans hb
  have HY := Lib.hid hY
  have HJ := Lib.hid hJ
  clear hY hJ
  gi_wp2
  gi_loopw [] (fun wr => ∃ (k : Nat) (tb : ByteArray), Hid (AllAt s k tb) ∧ Boxed wr B 9 (.string tb) ∧ Hid (J k wr)) (fun wr => match wr.cell? ⟨B, 0, none⟩ with | some (.string tb) => tb.size | _ => 0)
  case atStart => exact ⟨0, s, Lib.hid (AllAt.start s), hbW, Lib.hid h0⟩
  case round =>
    obtain ⟨k, tb, HA, hbx, HJk⟩ := hrel
    have hc := hbx.cell
    have hlt := hbx.lt
    have htb : tb.size ≤ 5000000 := by obtain ⟨f, _, _, _, h⟩ := HA.out; omega
    obtain ⟨c, t, m, x, ht⟩ : ∃ c t m x, Cl.takeF tb.data.toList = (c, t, m, x) := ⟨_, _, _, _, rfl⟩
    have HT := Lib.hid ht
    by_cases hx : x = 0
    · subst hx
      obtain ⟨cc, rfl, hcc, hmle, hput, ht2, hm6⟩ := Cl.takeF_ok tb.data.toList _ _ _ ht
      rw [len_data] at hmle
      obtain ⟨hit, hnx⟩ := HA.out.next ht (by omega) hmle
      have HIT := Lib.hid hit
      have HNX := Lib.hid hnx
      clear ht hput ht2 hit hnx hcc
      gi_wp2_with (refine ⟨trivial, ?_⟩; gi_at_call 103; refine (callsIn_wide.2 (takef_tells tb _ _ _ _ _ htb HT.out)).mono ?_; rintro e w' ⟨rfl, hb1⟩; obtain ⟨fn, tmps, assign, body, hy, hR⟩ := HY.out k _ w' HIT.out (HJ.out k wr w' HJk.out (grown_of_below hb1 _)); simp only [frameV] at hy)
      refine hR.mono ?_
      rintro e W' (⟨rfl, hJ', hB'⟩ | ⟨rfl, hJx'⟩)
      · have hbx' : Boxed W' B 9 (.string tb) := (hB'.trans (hb1.block B hlt)).trans hbx
        have hc' := hbx'.cell
        have hf' := hbx'.frozen
        have hJ2 := HJ.out _ _ _ hJ' (grownBy_setCell' W' B (.string (tb.extract m tb.size)))
        have hbx2 := hbx'.set (.string (tb.extract m tb.size))
        have HJ2 := Lib.hid hJ2
        clear hJ' hJ2 hB' hR hy hb1
        gi_wp2
        refine ⟨⟨k + 1, _, Lib.hid HNX.out, hbx2, Lib.hid HJ2.out⟩, ?_⟩
        rw [hbx2.cell, hc]
        simp only [ByteArray.size_extract]
        omega
      · gi_wp2
        refine bodyPost_ret (results_none rfl _ _ _) rfl ?_
        exact ⟨⟨_, rfl⟩, .inr ⟨k, (List.getElem?_eq_some_iff.1 HIT.out).1, hJx'⟩⟩
    · have hxb : (x != 0) = true := by simpa using hx
      have HD := Lib.hid (HA.out.done (by rw [ht]; exact hx))
      clear ht hx
      gi_wp2_with (refine ⟨trivial, ?_⟩; gi_at_call 103; refine (callsIn_wide.2 (takef_tells tb _ _ _ _ _ htb HT.out)).mono ?_; rintro e w' ⟨rfl, hb1⟩)
      refine ⟨fun _ h => (by cases h), ?_⟩
      gi_wp2
      refine bodyPost_ret (results_none rfl _ _ _) rfl ?_
      exact ⟨⟨_, rfl⟩, .inl (by rw [← HD.out]; exact HJ.out k wr w' HJk.out (grown_of_below hb1 _))⟩

end Go.Proofs.Ytllecjhfbojgcaa

/-
  The walks through frame.All's maker and frame.Whole.
-/
namespace Go.Proofs.Ytllecjhfbojgcaa
open Go.RowKit Go.Shelf
set_option maxRecDepth 20000
attribute [local go_sem] Oper.semAt_some

theorem all_any (s : ByteArray) (w : World) :
    Calls Try.prog 82 #[.string s] w fun e w' => e = .returned (.func (.func 102) #[] #[.pointer (some ⟨w.heap.size, 0, none⟩)]) ∧ w.alloc (.cells #[.string s] 9) = w' := by
  go_enter Try.func82, Try.ntmps82
  go_wp2_with fail
  go_ret
  exact ⟨rfl, rfl⟩

/-- The bytes of the frames. -/
def lens (l : List (Nat × List UInt8)) : Nat := (l.map fun y => (Cl.putF (UInt8.ofNat y.1) y.2).length).sum
theorem lens_snoc (l : List (Nat × List UInt8)) (k : Nat) (y : Nat × List UInt8) (h : l[k]? = some y) : lens (l.take (k + 1)) = lens (l.take k) + (Cl.putF (UInt8.ofNat y.1) y.2).length := by
  unfold lens
  rw [List.take_add_one, h]
  simp

theorem of_toNat (c : UInt8) : UInt8.ofNat c.toNat = c := by simp

theorem allF_is (f : Nat) : ∀ s : List UInt8, (∀ y ∈ (Cl.allF f s).1, ∃ c : UInt8, y.1 = c.toNat ∧ c.toNat ≠ 0 ∧ y.2.length ≤ 65536) ∧ lens (Cl.allF f s).1 = (Cl.allF f s).2 ∧ (Cl.allF f s).2 ≤ s.length := by
  induction f with
  | zero => intro s; exact ⟨by simp [Cl.allF], rfl, Nat.zero_le _⟩
  | succ f ih =>
    intro s
    obtain ⟨c, t, n, x, ht⟩ : ∃ c t n x, Cl.takeF s = (c, t, n, x) := ⟨_, _, _, _, rfl⟩
    by_cases hx : x = 0
    · subst hx
      obtain ⟨cc, rfl, hcc, hmle, hput, ht2, hm6⟩ := Cl.takeF_ok s _ _ _ ht
      have e : Cl.allF (f + 1) s = ((cc.toNat, t) :: (Cl.allF f (s.drop n)).1, n + (Cl.allF f (s.drop n)).2) := by
        conv => lhs; unfold Cl.allF
        rw [ht]
        simp
      rw [e]
      obtain ⟨h1, h2, h3⟩ := ih (s.drop n)
      have hlen : (Cl.putF cc t).length = n := by rw [← hput]; simp; omega
      refine ⟨?_, ?_, ?_⟩
      · intro y hy
        simp only [List.mem_cons] at hy
        rcases hy with rfl | hy
        · exact ⟨cc, rfl, hcc, ht2⟩
        · exact h1 y hy
      · show lens ((cc.toNat, t) :: _) = _
        unfold lens at h2 ⊢
        simp only [List.map_cons, List.sum_cons, of_toNat, hlen, h2]
      · rw [List.length_drop] at h3
        simp only
        omega
    · have e : Cl.allF (f + 1) s = ([], 0) := by
        unfold Cl.allF
        rw [ht, if_pos hx]
      rw [e]
      exact ⟨by simp, rfl, Nat.zero_le _⟩
theorem lens_le (l : List (Nat × List UInt8)) (k : Nat) : lens (l.take k) ≤ lens l := by
  conv => rhs; rw [← List.take_append_drop k l]
  unfold lens
  rw [List.map_append, List.sum_append]
  omega

theorem putf_item (y : Nat × List UInt8) (w : World) (h : ∃ c : UInt8, y.1 = c.toNat ∧ c.toNat ≠ 0 ∧ y.2.length ≤ 65536) :
    Calls Try.prog 83 #[.int .u8 y.1, .string ⟨y.2.toArray⟩] w fun e w' => e = .returned (.tuple #[.string ⟨(Cl.putF (UInt8.ofNat y.1) y.2).toArray⟩, .int .i64 0]) ∧ Below w.heap.size w w' := by
  obtain ⟨c, hc, h0, hl⟩ := h
  refine (putf_n y.1 c ⟨y.2.toArray⟩ (Cl.putF (UInt8.ofNat y.1) y.2) w (by rw [hc]) h0 (by rw [size_mk]; exact hl) ?_)
  rw [hc, of_toNat]

end Go.Proofs.Ytllecjhfbojgcaa
