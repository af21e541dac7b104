/-
  The walk through the statement SumOf, and the row: where what it reads is of bulk at most 1048576.
-/
import Derived.Test.YtjacoadanpbgmaaSumWorks
import Derived.Test.YtjacoadanpbgmaaArgs
import Derived.Test.YtjacoadanpbgmaaShelf
import Derived.Test.YtjacoadanpbgmaaRows
import Derived.OpenShut
import Derived.ChangeOld
import Derived.JoinedCond
namespace Go.Proofs.Ytjacoadanpbgmaa
open Go.RowKit Go.ChangeShapes Go.WideShapes Go.ChangeAt

theorem joinTail_nil (r : List (List UInt8)) : Lib.joinTail [] r = r.flatten := by
  unfold Lib.joinTail
  congr 1
  induction r with
  | nil => rfl
  | cons x r ih => simp

theorem join_empty (xs : List ByteArray) : Lib.join (xs.map (·.data.toList)) [] = cat xs := by
  cases xs with
  | nil => rfl
  | cons x r =>
    simp only [List.map_cons, Lib.join_cons, joinTail_nil, cat, List.flatMap_def, List.flatten_cons]

/-- strings.Join without a separator. -/
theorem sjoin_any (v : Value) (ss : List ByteArray) (w : World) (hr : Reads w v ss.length (strV ss)) (hb : (cat ss).length ≤ 1048576) (hn : ss.length ≤ 1048576) :
    Calls Try.prog 18 #[v, .string ⟨#[]⟩] w fun e w' => ∃ s : ByteArray, e = .returned (.string s) ∧ s.data.toList = cat ss ∧ s.size = (cat ss).length ∧ Below w.heap.size w w' := by
  have he : (⟨#[]⟩ : ByteArray).data.toList = [] := rfl
  rcases hr with ⟨a, cap, rfl, h0, _⟩ | ⟨b, off, cap, rfl, hl, hm, hlt, hc⟩
  · have hx0 : ss = [] := List.eq_nil_of_length_eq_zero h0
    subst hx0
    exact (Try.strings_Join_none a cap ⟨#[]⟩ w).mono fun e w' ⟨h1, h2⟩ => ⟨_, h1, rfl, rfl, by rw [h2]; exact Below.refl _ _⟩
  · have hc' : ∀ (j : Nat) x, ss[j]? = some x → w.cell? ⟨b, off + j, none⟩ = some (.string x) := fun j x hj => hc j _ (by simp [strV, hj])
    refine (Try.strings_Join b off cap ss ⟨#[]⟩ w hc' hlt (by omega) hl (by rw [he, join_empty]; omega)).mono fun e w' ⟨h1, h2⟩ => ?_
    rw [he, join_empty] at h1
    exact ⟨_, h1, rfl, List.size_toArray, h2⟩

theorem sumofR_any (v : Value) (ss : List ByteArray) (w : World) (hr : Reads w v ss.length (strV ss)) (hz : ∀ s ∈ ss, s.size ≤ maxLen) :
    Calls Try.prog 15 #[v] w fun e w' => e = .returned (.int .u32 (Cl.adler (cat ss))) ∧ w = w' := by
  have hle := hr.lenLe
  rcases hr with ⟨a, cap, rfl, h0, _⟩ | ⟨b, off, cap, rfl, hl, hm, hlt, hc⟩
  · have hx0 : ss = [] := List.eq_nil_of_length_eq_zero h0
    subst hx0
    exact (sumof_empty a cap w).mono fun e w' ⟨h1, h2⟩ => ⟨by rw [h1, show cat [] = [] from rfl, Cl.adler_nil]; rfl, h2⟩
  · exact sumof_any b off cap ss w hle hz fun j x hj => hc j _ (by simp [strV, hj])

set_option maxHeartbeats 1000000 in
theorem sumOf_walk (v : Value) (ss : List ByteArray) (w : World) (hr : Reads w v ss.length (strV ss)) (hz : ∀ s ∈ ss, s.size ≤ maxLen) (hb : (cat ss).length ≤ 1048576) (hn : ss.length ≤ 1048576) :
    Calls Try.prog 7 #[v] w fun e w' => e = .returned (.bool true) ∧ Below w.heap.size w w' := by
  by_cases hbig : 100000 < (cat ss).length
  · go_enter Try.func7, Try.ntmps7
    go_wp2_with fail
    refine (sjoin_any v ss _ hr hb hn).mono ?_
    rintro e w1 ⟨s, rfl, hs1, hs2, hb1⟩
    have ht : decide ((100000 : Int) < s.size) = true := by simp; omega
    clear hs1 hs2 hbig hb hn hr
    go_wp2_with fail
    refine (sumworks_any _).mono ?_
    rintro e w2 ⟨rfl, hb2⟩
    go_wp2_with fail
    go_ret
    exact ⟨rfl, bel_trans hb1 hb2⟩
  · go_enter Try.func7, Try.ntmps7
    go_wp2_with fail
    refine (sjoin_any v ss _ hr hb hn).mono ?_
    rintro e w1 ⟨s, rfl, hs1, hs2, hb1⟩
    have ht : decide ((100000 : Int) < s.size) = false := by simp; omega
    have hs3 : s.size ≤ maxLen := by unfold maxLen; omega
    have HS := Lib.hid hs1
    clear hs1 hs2 hbig hb hn
    go_wp2_with fail
    refine (sumofR_any v ss _ (hr.below hb1) hz).mono ?_
    rintro e w' ⟨rfl, rfl⟩
    go_wp2_with fail
    refine (refof_any s _ hs3).mono ?_
    rintro e w' ⟨rfl, rfl⟩
    rw [HS.out]
    clear hr
    go_wp2_with fail
    refine (sumworks_any _).mono ?_
    rintro e w2 ⟨rfl, hb2⟩
    go_wp2_with fail
    go_ret
    exact ⟨rfl, bel_trans hb1 hb2⟩

theorem bulk_strs {H : Type} (ss : List ByteArray) : Rows.uptoBulkAll (strs (H := H) ss) = (cat ss).length + ss.length := by
  induction ss with
  | nil => rfl
  | cons s r ih =>
    have e : strs (H := H) (s :: r) = .lit (.string s.data.toList) :: strs r := rfl
    rw [e]
    simp only [Rows.uptoBulkAll, Rows.uptoBulk, ih, cat, List.flatMap_cons, List.length_append, List.length_cons]
    omega

namespace sumOf

theorem own : ownKnob Try.prog.godebug = none := by kernel_rfl
theorem laidOut : laidOutB Try.prog = true := by kernel_rfl

theorem contract (H : Type) (enc : TypeId × Value → H) (W : World) (base : Nat) (args : Array Value) (ds gs : List (DataW H)) (before : List MemPlace)
    (hval : ∀ (j : Nat) t v, Try.f7.params[j]? = some t → args[j]? = some v → Value.okWide Try.prog W .any base t v)
    (hW : DataW.Whole enc Try.prog Try.f7.params.toList Rows.sumOfSpec.vars false W args.toList ds gs before) (hk : Rows.uptoSmall H (ds ++ gs) = true) :
    Calls Try.prog 7 args W fun e W' => ∃ v, e = .returned v ∧ Rows.sumOfSpec.post enc Try.prog Try.f7 false true false false W args v W' := by
  have hW' := hW
  obtain ⟨p, q, hA0, hV, rfl, hfz, hnd⟩ := hW
  have hA : DataW.TrodAll enc Try.prog W 0 (fun _ => true) true Try.f7.params.toList args.toList ds p := hA0
  rw [Try.params7] at hA hval
  obtain ⟨v0, vs0, d0, ds0, p0, q0, hargs, rfl, rfl, h0, r0⟩ := trodAll_cons hA
  obtain ⟨rfl, rfl, rfl⟩ := trodAll_nil r0
  obtain rfl : args = #[v0] := by cases args; simp_all
  obtain ⟨rfl, rfl⟩ := trodVars_none hV
  obtain ⟨a0, len0, cap0, rfl⟩ := okWide_slice Try.underlying32 (hval 0 32 v0 rfl rfl)
  have k0 := h0
  have lt0 : ∀ x ∈ p0, x.block < W.heap.size := by obtain ⟨m, hm⟩ := k0; exact DataW.trod_lt m _ _ _ hm
  obtain ⟨fuel, hf⟩ := h0
  obtain ⟨ss, sp, hr, hz, hd⟩ := reads_strings Try.underlying32 Try.underlying9 (by kernel_rfl) hf
  clear hA0
  have hk2 : Rows.uptoBulkAll ([d0] ++ ([] : List (DataW H))) ≤ 1048576 := of_decide_eq_true hk
  have hbn : (cat ss).length + ss.length ≤ 1048576 := by
    rcases hd with ⟨_, rfl⟩ | hd
    · simp [cat]
    · simp only at hd
      rw [hd] at hk2
      simp only [List.append_nil, Rows.uptoBulkAll, Rows.uptoBulk, bulk_strs] at hk2
      omega
  refine (sumOf_walk _ ss W hr hz (by omega) (by omega)).mono fun e W' ⟨he, bel⟩ => ?_
  subst he
  exact ⟨_, rfl, _, _, _, [], _, [], hW', trodAll_mk1 (shut_bool Try.underlying4 _), (trodAll_cons_mk (Below.trod laidOut (by kernel_rfl) (of_decide_eq_true (by kernel_rfl)) k0 bel lt0) trodAll_mk0), rfl, bel.frame _, fun h => by cases h⟩

set_option maxRecDepth 100000 in
theorem lifted (os : Os) (started : os.Started) (H : Type) (enc : TypeId × Value → H) (F : Stop.Interp) :
    ReturnsInHanded {} Try.checked os 7 .any ((Rows.OpenSpec.upto Rows.sumOfSpec).pre6 enc Try.prog Try.f7 Rows.sumOfUptoRow.domain false) (((Rows.OpenSpec.upto Rows.sumOfSpec).at F).post enc Try.prog Try.f7 false true false false) := by
  refine returnsInHanded_of_cond (C := Try.checked) (s := Rows.OpenSpec.upto Rows.sumOfSpec) (k := Rows.uptoSmall) rfl own started (by kernel_rfl) Try.func7
    (OpenSpec.witness (enc := enc) (C := Try.checked) (s := Rows.OpenSpec.upto Rows.sumOfSpec) (k := Rows.uptoSmall) rfl false ⟨#[], #[.slice none 0 0], []⟩ 8 (by kernel_rfl) (by kernel_rfl) (by kernel_rfl)
      (x := ([.nil], [], [])) (by kernel_rfl) rfl (by kernel_rfl)) ?_
  intro W base args ds gs before hval hW _ hk _
  exact contract H enc W base args ds gs before hval hW hk

theorem proved : Rows.SumOfUptoSaid :=
  OpenClaim.holds_of_cond 7 Try.f7 rfl rfl rfl rfl rfl rfl rfl ⟨rfl, rfl, rfl, rfl, rfl⟩ rfl rfl rfl rfl rfl (by kernel_rfl) Try.func7 (by kernel_rfl)
    (of_decide_eq_true (by kernel_rfl)) (by unfold Func.isWrapper; first | (rw [if_pos (by decide +kernel)]; kernel_rfl) | (rw [if_neg (by decide +kernel)]; exact ⟨rfl, rfl⟩))
    (fun os started H enc _ F => lifted os started H enc F)
end sumOf
end Go.Proofs.Ytjacoadanpbgmaa
