/-
  The walks through the reference's Take and All.
-/
import Derived.Test.YtllecjhfbojgcaaFrameWalks
namespace Go.Proofs.Ytllecjhfbojgcaa
open Go.RowKit
set_option maxRecDepth 20000

theorem reftt_says (s : ByteArray) (t : List UInt8) (k : Nat) (x : Int) (w : World) (hs : s.size ≤ 5000000) (h : Cl.takeText s.data.toList = (t, k, x)) :
    Calls Try.prog 118 #[.string s] w fun e w' => e = .returned (.tuple #[.string ⟨t.toArray⟩, .int .i64 k, .int .i64 x]) ∧ w = w' := by
  refine (reftaketext_any s w hs).mono fun e w' ht => ?_
  unfold TextSays at ht
  rw [h] at ht
  exact ht

set_option maxHeartbeats 2000000 in
theorem reftakef_any (s : ByteArray) (w : World) (hs : s.size ≤ 5000000) :
    Calls Try.prog 111 #[.string s] w (TakeFSays s.data.toList w) := by
  by_cases h0 : s.size = 0
  · have hd := data_nil s h0
    have hem : ((s.size : Int) == 0) = true := by rw [h0]; rfl
    have hfin : Cl.takeF s.data.toList = (0, [], 0, 20) := by rw [hd]; rfl
    have HF := Lib.hid hfin
    clear hd hfin h0 hs
    go_enter Try.func111, Try.ntmps111
    go_wp2_with fail
    exact bodyPost_ret (v := .tuple #[.int .u8 0, .string ⟨#[]⟩, .int .i64 0, .int .i64 20]) (by simp [results, Try.results111, go_sem]) rfl (takef_says (c := 0) (n := 0) HF.out data_empty (Below.refl _ _))
  · have hpos : 0 < s.size := by omega
    have hem : ((s.size : Int) == 0) = false := beq_eq_false_iff_ne.2 (by omega)
    obtain ⟨t, k, x, htk⟩ : ∃ t k x, Cl.takeText (s.data.toList.drop 1) = (t, k, x) := ⟨_, _, _, rfl⟩
    obtain ⟨c1, c2, c3, c4, c5⟩ := takeF_cases _ s[0] _ t k x (head_drop s hpos) htk
    rw [len_data] at c3 c4 c5
    have hc256 : s[0].toNat < 256 := s[0].toNat_lt
    obtain ⟨rb, hrb⟩ : ∃ rb : ByteArray, s.extract 1 s.size = rb := ⟨_, rfl⟩
    have HT : Hid (Cl.takeText rb.data.toList = (t, k, x)) := Lib.hid (by rw [← hrb, drop_data]; exact htk)
    have HRS : Hid (rb.size ≤ 5000000) := Lib.hid (by rw [← hrb, extract_size]; omega)
    have HRB := Lib.hid hrb
    by_cases hc : s[0].toNat = 0
    · have hcb : ((s[0].toNat : Int) == 0) = true := by simp; omega
      have HF := Lib.hid (c1 hc)
      clear c1 c2 c3 c4 c5 hs hc h0 hrb htk
      go_enter Try.func111, Try.ntmps111
      go_wp2_with fail
      exact bodyPost_ret (v := .tuple #[.int .u8 0, .string ⟨#[]⟩, .int .i64 0, .int .i64 21]) (by simp [results, Try.results111, go_sem]) rfl (takef_says (c := 0) (n := 0) HF.out data_empty (Below.refl _ _))
    · have hcb : ((s[0].toNat : Int) == 0) = false := by simp; omega
      by_cases hx : x = 0
      · subst hx
        by_cases hsh : s.size < k + 1 + 4
        · have HF := Lib.hid (c3 hc rfl hsh)
          have hd := decide_eq_true (show (s.size : Int) < (k : Int) + 5 by omega)
          have hkl : k ≤ 5000000 := by
            have h1 := (Cl.takeText_ok _ _ _ HT.out).1
            rw [len_data] at h1
            have := HRS.out
            omega
          clear c1 c2 c3 c4 c5 hs hc h0 hrb htk
          go_enter Try.func111, Try.ntmps111
          go_wp2_with fail
          rw [HRB.out]
          refine (reftt_says rb t k 0 _ HRS.out HT.out).mono ?_
          rintro e w' ⟨rfl, rfl⟩
          go_wp2_with fail
          exact bodyPost_ret (v := .tuple #[.int .u8 0, .string ⟨#[]⟩, .int .i64 0, .int .i64 20]) (by simp [results, Try.results111, go_sem]) rfl (takef_says (c := 0) (n := 0) HF.out data_empty (Below.refl _ _))
        · clear c1 c2 c3
          have hlen : k + 1 + 4 ≤ s.size := by omega
          have hd : decide ((s.size : Int) < (k : Int) + 5) = false := by simp; omega
          obtain ⟨ub, hub⟩ : ∃ ub : ByteArray, s.extract 0 (k + 1) = ub := ⟨_, rfl⟩
          have hud : ub.data.toList = s.data.toList.take (k + 1) := by rw [← hub, Lib.extract_data]; simp
          have hus : ub.size ≤ 5000000 := by rw [← hub]; simp; omega
          have hal := Cl.adler_lt (s.data.toList.take (k + 1))
          have HUB := Lib.hid hub
          have HUD := Lib.hid hud
          have HUS := Lib.hid hus
          have HAL := Lib.hid hal
          have hk1 : 1 ≤ k := (Cl.takeText_ok _ _ _ htk).2.2.2
          have hkl : k ≤ 5000000 := by omega
          clear hub hud hus hal hrb htk hs h0
          by_cases hsum : (s.data.toList.drop (k + 1)).take 4 = Cl.tailB (Cl.adler (s.data.toList.take (k + 1)))
          · have HF := Lib.hid (c5 hc rfl hlen hsum)
            have hcmp : ((s.extract (k + 1) (k + 5)).toList == Cl.tailB (Cl.adler (s.data.toList.take (k + 1)))) = true := by
              rw [Lib.toList_data, show k + 5 = k + 1 + 4 by omega, cut_data, beq_iff_eq]; exact hsum
            clear c4 c5 hc hsh hsum
            go_enter Try.func111, Try.ntmps111
            go_wp2_with fail
            rw [HRB.out]
            refine (reftt_says rb t k 0 _ HRS.out HT.out).mono ?_
            rintro e w' ⟨rfl, rfl⟩
            go_wp2_with fail
            have b1 : (0 : Int) ≤ (k : Int) + 1 := by omega
            have b2 : (k : Int) + 1 ≤ (k : Int) + 5 := by omega
            have b6 : k + 1 ≤ k + 5 := by omega
            have b7 : k + 5 ≤ s.size := by omega
            have b8 : k + 1 ≤ s.size := by omega
            have b3 : (k : Int) + 5 ≤ (s.size : Int) := by omega
            have b4 : (k : Int) + 1 ≤ (s.size : Int) := by omega
            have b5 : (0 : Int) ≤ (k : Int) + 5 := by omega
            have e1 : IntKind.i64.wrap ((k : Int) + 5) = (k : Int) + 5 := IntWalk.i64_in _ (by omega)
            have e0 : IntKind.i64.wrap ((k : Int) + 1) = (k : Int) + 1 := IntWalk.i64_in _ (by omega)
            have e2 : ((k : Int) + 1).toNat = k + 1 := by omega
            have e3 : ((k : Int) + 5).toNat = k + 5 := by omega
            go_region_held3 (fun _ => True) (trivial) (first | (go_at_call 114; refine (refof_any _ _ (by rw [HUB.out]; have := HUS.out; unfold maxLen; omega)).mono ?_; rintro e w2 ⟨rfl, rfl⟩; rw [HUB.out, HUD.out]) | (go_at_call 113; refine (reftail_any _ _ HAL.out).mono ?_; rintro e w2 ⟨rfl, hb2⟩))
            clear b1 b2 b3 b4 b5 e0 e1 e2 e3
            go_wp2_with fail
            exact bodyPost_ret (v := .tuple #[.int .u8 s[0].toNat, .string ⟨t.toArray⟩, .int .i64 ((k : Int) + 5), .int .i64 0]) (by simp [results, Try.results111, go_sem]) rfl (takef_says (c := s[0].toNat) (n := k + 1 + 4) HF.out rfl (bel_trans (bel_drew _) hb2))
          · have HF := Lib.hid (c4 hc rfl hlen hsum)
            have hcmp : ((s.extract (k + 1) (k + 5)).toList == Cl.tailB (Cl.adler (s.data.toList.take (k + 1)))) = false := by
              rw [Lib.toList_data, show k + 5 = k + 1 + 4 by omega, cut_data, beq_eq_false_iff_ne]; exact hsum
            clear c4 c5 hc hsh hsum
            go_enter Try.func111, Try.ntmps111
            go_wp2_with fail
            rw [HRB.out]
            refine (reftt_says rb t k 0 _ HRS.out HT.out).mono ?_
            rintro e w' ⟨rfl, rfl⟩
            go_wp2_with fail
            have b1 : (0 : Int) ≤ (k : Int) + 1 := by omega
            have b2 : (k : Int) + 1 ≤ (k : Int) + 5 := by omega
            have b6 : k + 1 ≤ k + 5 := by omega
            have b7 : k + 5 ≤ s.size := by omega
            have b8 : k + 1 ≤ s.size := by omega
            have b3 : (k : Int) + 5 ≤ (s.size : Int) := by omega
            have b4 : (k : Int) + 1 ≤ (s.size : Int) := by omega
            have b5 : (0 : Int) ≤ (k : Int) + 5 := by omega
            have e1 : IntKind.i64.wrap ((k : Int) + 5) = (k : Int) + 5 := IntWalk.i64_in _ (by omega)
            have e0 : IntKind.i64.wrap ((k : Int) + 1) = (k : Int) + 1 := IntWalk.i64_in _ (by omega)
            have e2 : ((k : Int) + 1).toNat = k + 1 := by omega
            have e3 : ((k : Int) + 5).toNat = k + 5 := by omega
            go_region_held3 (fun _ => True) (trivial) (first | (go_at_call 114; refine (refof_any _ _ (by rw [HUB.out]; have := HUS.out; unfold maxLen; omega)).mono ?_; rintro e w2 ⟨rfl, rfl⟩; rw [HUB.out, HUD.out]) | (go_at_call 113; refine (reftail_any _ _ HAL.out).mono ?_; rintro e w2 ⟨rfl, hb2⟩))
            clear b1 b2 b3 b4 b5 e0 e1 e2 e3
            go_wp2_with fail
            exact bodyPost_ret (v := .tuple #[.int .u8 0, .string ⟨#[]⟩, .int .i64 0, .int .i64 40]) (by simp [results, Try.results111, go_sem]) rfl (takef_says (c := 0) (n := 0) HF.out data_empty (bel_trans (bel_drew _) hb2))
      · have hxb : (x != 0) = true := by simpa using hx
        have HF := Lib.hid (c2 hc hx)
        clear c1 c2 c3 c4 c5 hs hc h0 hrb htk hx
        go_enter Try.func111, Try.ntmps111
        go_wp2_with fail
        rw [HRB.out]
        refine (reftt_says rb t k x _ HRS.out HT.out).mono ?_
        rintro e w' ⟨rfl, rfl⟩
        go_wp2_with fail
        exact bodyPost_ret (v := .tuple #[.int .u8 0, .string ⟨#[]⟩, .int .i64 0, .int .i64 x]) (by simp [results, Try.results111, go_sem]) rfl (takef_says (c := 0) (n := 0) HF.out data_empty (Below.refl _ _))


theorem reftakef_tells (s : ByteArray) (c n : Nat) (t : List UInt8) (x : Int) (w : World) (hs : s.size ≤ 5000000) (h : Cl.takeF s.data.toList = (c, t, n, x)) :
    Calls Try.prog 111 #[.string s] w fun e w' => e = .returned (.tuple #[.int .u8 c, .string ⟨t.toArray⟩, .int .i64 n, .int .i64 x]) ∧ Below w.heap.size w w' := by
  refine (reftakef_any s w hs).mono fun e w' ht => ?_
  unfold TakeFSays at ht
  rw [h] at ht
  exact ht

/-- A slice of frames, cell by cell. -/
def frCells (l : List (Nat × List UInt8)) : List Value := l.flatMap fun y => [.int .u8 y.1, .string ⟨y.2.toArray⟩]
theorem frCells_snoc (l : List (Nat × List UInt8)) (y : Nat × List UInt8) : frCells l ++ [.int .u8 y.1, .string ⟨y.2.toArray⟩] = frCells (l ++ [y]) := by simp [frCells]
theorem frCells_len (l : List (Nat × List UInt8)) : (frCells l).length = 2 * l.length := by
  induction l with
  | nil => rfl
  | cons y l ih => simp only [frCells, List.flatMap_cons, List.length_append, List.length_cons, List.length_nil] at ih ⊢; omega
theorem frCells_at (l : List (Nat × List UInt8)) : ∀ (k : Nat) (y : Nat × List UInt8), l[k]? = some y → (frCells l)[2 * k]? = some (.int .u8 y.1) ∧ (frCells l)[2 * k + 1]? = some (.string ⟨y.2.toArray⟩) := by
  induction l with
  | nil => intro k y h; simp at h
  | cons z l ih =>
    intro k y h
    have e : frCells (z :: l) = [.int .u8 z.1, .string ⟨z.2.toArray⟩] ++ frCells l := rfl
    rw [e]
    cases k with
    | zero =>
      simp only [List.getElem?_cons_zero, Option.some.injEq] at h
      subst h
      exact ⟨rfl, rfl⟩
    | succ k =>
      simp only [List.getElem?_cons_succ] at h
      obtain ⟨h1, h2⟩ := ih k y h
      rw [List.getElem?_append_right (by simp; omega), List.getElem?_append_right (by simp; omega)]
      have e1 : 2 * (k + 1) - [Value.int .u8 z.1, .string ⟨z.2.toArray⟩].length = 2 * k := by simp; omega
      have e2 : 2 * (k + 1) + 1 - [Value.int .u8 z.1, .string ⟨z.2.toArray⟩].length = 2 * k + 1 := by simp; omega
      rw [e1, e2]
      exact ⟨h1, h2⟩

/-- Between two rounds of the reference's All. -/
def RefAt (s : List UInt8) (k : Nat) (at_ : Nat) : Prop :=
  ∃ f, s.length ≤ at_ + f ∧ at_ ≤ s.length ∧ k ≤ at_ ∧ k ≤ (Cl.allF s.length s).1.length ∧ (Cl.allF s.length s).1.drop k = (Cl.allF f (s.drop at_)).1 ∧ at_ + (Cl.allF f (s.drop at_)).2 = (Cl.allF s.length s).2
theorem RefAt.start (s : List UInt8) : RefAt s 0 0 := ⟨s.length, by omega, Nat.zero_le _, Nat.le_refl _, Nat.zero_le _, by rw [List.drop_zero, List.drop_zero], by rw [List.drop_zero, Nat.zero_add]⟩
theorem RefAt.bounds {s : List UInt8} {k a : Nat} (h : RefAt s k a) : a ≤ s.length ∧ k ≤ a := by obtain ⟨f, _, h2, h3, _⟩ := h; exact ⟨h2, h3⟩
theorem RefAt.done {s : List UInt8} {k a : Nat} (h : RefAt s k a) (hx : (Cl.takeF (s.drop a)).2.2.2 ≠ 0) : (Cl.allF s.length s).1.take k = (Cl.allF s.length s).1 ∧ a = (Cl.allF s.length s).2 ∧ k = (Cl.allF s.length s).1.length := by
  obtain ⟨f, h1, h2, h3, h4, h5, h6⟩ := h
  have e : Cl.allF f (s.drop a) = ([], 0) := by
    cases f with
    | zero => rfl
    | succ f => unfold Cl.allF; rw [if_pos hx]
  rw [e] at h5 h6
  have := congrArg List.length h5
  rw [List.length_drop] at this
  simp only [List.length_nil] at this
  refine ⟨List.take_of_length_le (by omega), by simpa using h6, by omega⟩
theorem RefAt.next {s : List UInt8} {k a c n : Nat} {t : List UInt8} (h : RefAt s k a) (ht : Cl.takeF (s.drop a) = (c, t, n, 0)) : (Cl.allF s.length s).1[k]? = some (c, t) ∧ RefAt s (k + 1) (a + n) ∧ a + n ≤ s.length := by
  obtain ⟨f, h1, h2, h3, h4, h5, h6⟩ := h
  obtain ⟨cc, rfl, hcc, hmle, hput, ht2, hm6⟩ := Cl.takeF_ok _ _ _ _ ht
  rw [List.length_drop] at hmle
  obtain ⟨g, rfl⟩ : ∃ g, f = g + 1 := ⟨f - 1, by omega⟩
  have e : Cl.allF (g + 1) (s.drop a) = ((cc.toNat, t) :: (Cl.allF g (s.drop (a + n))).1, n + (Cl.allF g (s.drop (a + n))).2) := by
    conv => lhs; unfold Cl.allF
    rw [ht]
    simp [List.drop_drop]
  rw [e] at h5 h6
  have hk : (Cl.allF s.length s).1[k]? = some (cc.toNat, t) := by
    have := congrArg (fun l : List (Nat × List UInt8) => l[0]?) h5
    simpa [List.getElem?_drop] using this
  refine ⟨hk, ⟨g, by omega, by omega, by omega, (List.getElem?_eq_some_iff.1 hk).1, ?_, by simp only at h6; omega⟩, by omega⟩
  have h7 := congrArg List.tail h5
  rwa [List.tail_drop, List.tail_cons] at h7

theorem infoFr : (Try.prog.info? 128).map (fun i => (i.zero, i.size, i.bytes)) = some (some (.agg #[.int .u8 0, .string ⟨#[]⟩]), 2, 24) := by kernel_rfl

set_option maxHeartbeats 2000000 in
theorem refall_own (s : ByteArray) (items : List (Nat × List UInt8)) (tot : Nat) (w : World) (hs : s.size ≤ 5000000) (h : Cl.allF s.size s.data.toList = (items, tot)) :
    Calls Try.prog 98 #[.string s] w fun e w' => ∃ v, e = .returned (.tuple #[v, .int .i64 tot]) ∧ w'.ownsRow w.heap.size 128 2 v items.length (frCells items) ∧ Below w.heap.size w w' := by
  obtain ⟨i0, hi0, hz0, hz1, hz2⟩ := info_parts infoFr
  have HS := Lib.hid hs
  have HI := Lib.hid (show Cl.allF s.data.toList.length s.data.toList = (items, tot) by rw [len_data]; exact h)
  clear h
  go_enter Try.func98, Try.ntmps98
  go_wp2_with fail
  go_loopw [4, 5] (fun v a wr => ∃ k at_ : Nat, a = .int .i64 at_ ∧ Hid (RefAt s.data.toList k at_) ∧ Below w.heap.size w wr ∧ wr.ownsRow w.heap.size 128 2 v k (frCells (items.take k))) (fun _ a _ => s.size - (intOf a).toNat)
  case atStart => exact ⟨0, 0, rfl, Lib.hid (RefAt.start _), Below.refl _ _, World.ownsRow_nil _ _ _ _⟩
  case round =>
    obtain ⟨k, at_, rfl, HA, hbw, hown⟩ := hrel
    obtain ⟨hat, hka⟩ := HA.out.bounds
    rw [len_data] at hat
    obtain ⟨rb, hrb⟩ : ∃ rb, s.extract at_ s.size = rb := ⟨_, rfl⟩
    have hrd : rb.data.toList = s.data.toList.drop at_ := by rw [← hrb, Lib.extract_data, List.take_of_length_le (by rw [List.length_drop, len_data]; omega)]
    have HRS : Hid (rb.size ≤ 5000000) := Lib.hid (by have := HS.out; rw [← hrb]; simp; omega)
    obtain ⟨c, t, n, x, ht⟩ : ∃ c t n x, Cl.takeF rb.data.toList = (c, t, n, x) := ⟨_, _, _, _, rfl⟩
    have HT := Lib.hid ht
    rw [hrd] at ht
    have HRB := Lib.hid hrb
    have hat2 : (at_ : Int) ≤ (s.size : Int) := by omega
    by_cases hx : x = 0
    · subst hx
      obtain ⟨hit, hnx, hle⟩ := HA.out.next ht
      rw [len_data] at hle
      rw [HI.out] at hit
      have HIT := Lib.hid hit
      have HNX := Lib.hid hnx
      have hn6 : 6 ≤ n := by obtain ⟨_, _, _, _, _, _, h⟩ := Cl.takeF_ok _ _ _ _ ht; exact h
      clear ht hit hnx hrd hrb
      go_wp2_with fail
      rw [HRB.out]
      refine (reftakef_tells rb c n t 0 _ HRS.out HT.out).mono ?_
      rintro e w1 ⟨rfl, hb1⟩
      have hown1 := own_below hown hb1
      have hbw1 := bel_trans hbw hb1
      have hsz1 := hbw1.size
      clear hown hbw hb1
      go_wp2_with ((at_builtin; refine wpList_append_own _ rfl _ _ 124 rfl w.heap.size 128 i0 (.agg #[.int .u8 0, .string ⟨#[]⟩]) 2 24 Try.underlying124 hi0 hz0 hz1 hz2 rfl (by decide) _ _ _ rfl (hown1.alloc _) ⟨w1.heap.size, 0, none⟩ 1 1 [.int .u8 c, .string ⟨t.toArray⟩] rfl rfl ?c1 ?c2 ?c3 ?c4 ?c5 ?_))
      case c1 =>
        intro j u hj
        rw [addr_add, Nat.zero_add]
        exact cell_row w1 _ _ j u (by simpa using hj)
      case c2 => simp [Value.oneCell']
      case c3 => have := HS.out; unfold maxLen; omega
      case c4 => have := HS.out; omega
      case c5 => simp; omega
      intro v' w2 hv2 hg2 _
      have hb2 := below_pushed hbw1 hown1 _ hg2
      clear hg2 hown1 hbw1
      go_wp2_with fail
      go_roundw
      case rel =>
        refine ⟨k + 1, at_ + n, by go_num, Lib.hid HNX.out, hb2, ?_⟩
        rw [take_snoc_of items k (c, t) HIT.out, ← frCells_snoc]
        exact hv2
      case measure => simp [intOf]; omega
    · have hxb : (x != 0) = true := by simpa using hx
      obtain ⟨hd1, hd2, hd3⟩ := HA.out.done (by rw [ht]; exact hx)
      rw [HI.out] at hd1 hd2 hd3
      have HD1 := Lib.hid hd1
      have HD2 := Lib.hid hd2
      have HD3 := Lib.hid hd3
      clear ht hx hrd hrb hd1 hd2 hd3
      go_wp2_with fail
      rw [HRB.out]
      refine (reftakef_tells rb c n t x _ HRS.out HT.out).mono ?_
      rintro e w1 ⟨rfl, hb1⟩
      go_wp2_with fail
      go_ret2
      refine ⟨_, by rw [HD2.out]; rfl, ?_, bel_trans hbw hb1⟩
      have := own_below hown hb1
      rw [HD1.out, HD3.out] at this
      exact this

theorem refall_any (s : ByteArray) (items : List (Nat × List UInt8)) (tot : Nat) (w : World) (hs : s.size ≤ 5000000) (h : Cl.allF s.size s.data.toList = (items, tot)) :
    Calls Try.prog 98 #[.string s] w fun e w' => ∃ v, e = .returned (.tuple #[v, .int .i64 tot]) ∧ Reads w' v items.length (frCells items) ∧ Below w.heap.size w w' := by
  refine (refall_own s items tot w hs h).mono ?_
  rintro e w' ⟨v, h1, h2, h3⟩
  exact ⟨v, h1, Reads.own h2, h3⟩

end Go.Proofs.Ytllecjhfbojgcaa
