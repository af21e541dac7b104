/-
  Move walked.
-/
import Derived.Test.YtllecjhfbojgcaaDiskCut
namespace Go.Proofs.Ytllecjhfbojgcaa
open Go.RowKit
set_option maxRecDepth 20000

theorem move_nil (a b : Int) (w : World) : Calls Try.prog 57 #[.pointer none, .int .i64 a, .int .i64 b] w fun e w' => e = .returned (.int .i64 1) ∧ Below w.heap.size w w' := by
  obtain ⟨W, hW⟩ : ∃ W, (w.alloc (.cells #[.int .i64 a] 3)).alloc (.cells #[.int .i64 b] 3) = W := ⟨_, rfl⟩
  have hbW : Below w.heap.size w W := by rw [← hW]; exact bel_trans (bel_alloc _ _) (bel_alloc _ _)
  have q0 := cells_at (show W.heap[w.heap.size]? = some (.cells #[.int .i64 a] 3) by rw [← hW]; exact alloc_at _ _ _) 0 _ rfl
  simp only [List.getElem_toArray, List.getElem_cons_zero] at q0
  have HW := Lib.hid hW
  have HBW := Lib.hid hbW
  clear hW hbW
  go_enter Try.func57, Try.ntmps57
  go_wp2_with fail
  rw [HW.out]
  refine (ready_nil _ _).mono ?_
  rintro e w' ⟨rfl, rfl⟩
  go_wp2_with fail
  go_ret
  exact ⟨rfl, bel_trans HBW.out (bel_alloc _ _)⟩

set_option maxHeartbeats 4000000 in
theorem move_any (w : World) (d : Nat) (S : Dk.St) (F : Nat → Prop) (h : DiskAt w d S F) (a b : Int) (hm : S.loose.length ≤ 1000000000) :
    Calls Try.prog 57 #[ptr d 0, .int .i64 a, .int .i64 b] w fun e w' => e = .returned (.int .i64 (Dk.move S a b).1) ∧ Turned w w' d (Dk.move S a b).2 F := by
  have HLT := Lib.hid h.lt
  have H := Lib.hid h
  obtain ⟨W, V, hW, hV, hbV, hWs, hVs, ha', hb', -, -⟩ := boxes w a b (.cells #[.int .i64 a, .int .i64 b] 3)
  have hDV := h.below hbV
  have q0 := cells_at ha' 0 _ rfl
  have q1 := cells_at hb' 0 _ rfl
  simp only [List.getElem_toArray, List.getElem_cons_zero] at q0 q1
  have HD := Lib.hid hDV
  have HW := Lib.hid hW
  have HV := Lib.hid hV
  have HBV := Lib.hid hbV
  have HVS := Lib.hid hVs
  have HA := Lib.hid ha'
  have HB := Lib.hid hb'
  have hrd := lit_ints W #[.int .i64 a, .int .i64 b] [a, b] (w.heap.size + 2) hWs.symm rfl (by simp)
  rw [hV] at hrd
  have HRD := Lib.hid hrd
  have HOKS := Lib.hid h.ok
  clear h hW hV hbV ha' hb' hWs hVs hDV hrd
  by_cases hr : Dk.ready S [a, b] = 0
  · have hr1 := Dk.ready_two hr
    by_cases hab : a = b
    · have he : Dk.move S a b = (2, S) := by
        unfold Dk.move
        rw [if_neg (by simpa using hr), if_pos hab]
      rw [he]
      have HX := Lib.hid hr
      subst hab
      clear hr hr1 he
      unfold ptr
      go_enter Try.func57, Try.ntmps57
      go_wp2_with fail
      rw [HW.out, HV.out]
      refine (ready_any [a, a] _ _ d S F HD.out HRD.out).mono ?_
      rintro e w' ⟨rfl, rfl⟩
      rw [HX.out]
      go_wp2_with fail
      go_ret
      exact ⟨rfl, Turned.below H.out HBV.out⟩
    · obtain ⟨i, rfl⟩ : ∃ i : Nat, a = i := ⟨a.toNat, by omega⟩
      obtain ⟨j, rfl⟩ : ∃ j : Nat, b = j := ⟨b.toNat, by omega⟩
      have he : Dk.move S (i : Int) (j : Int) = Dk.change S (.mov i j) := by
        unfold Dk.move
        rw [if_neg (by simpa using hr), if_neg hab]
        rfl
      rw [he]
      have hok : i < 16 ∧ j < 16 ∧ i ≠ j := by omega
      have hd : ((i : Int) == (j : Int)) = false := by simpa using hab
      have hd2 : (i == j) = false := by simpa using hok.2.2
      have HOK := Lib.hid hok
      have HT := Lib.hid (show Dk.total ((Dk.Ch.mov i j).run S.now) ≤ S.room by
        have := Dk.total_mov i j S.now (by rw [HOKS.out.nowL]; omega) (by rw [HOKS.out.nowL]; omega) hok.2.2
        have := HOKS.out.total
        omega)
      have HX := Lib.hid hr
      have HM := Lib.hid hm
      clear hr hr1 hab he hok hm
      unfold ptr
      go_enter Try.func57, Try.ntmps57
      go_wp2_with fail
      rw [HW.out, HV.out]
      refine (ready_any [(i : Int), (j : Int)] _ _ d S F HD.out HRD.out).mono ?_
      rintro e w' ⟨rfl, rfl⟩
      rw [HX.out]
      go_wp2_with fail
      have hDX : DiskAt V d S (fun k => F k ∨ k = w.heap.size ∨ k = w.heap.size + 1) := (H.out.below HBV.out).grow (fun k hk => .inl hk) (fun k hk => by
        have := HVS.out
        rcases hk with hk | hk | hk
        · have := HLT.out k hk; omega
        all_goals omega)
      have hcX : ChAt V (fun k => F k ∨ k = w.heap.size ∨ k = w.heap.size + 1) (.mov i j) (movV w.heap.size (w.heap.size + 1)) .nilFunc :=
        .mov i j _ _ HA.out HB.out (by simp) (by simp)
      refine (change_any V d S _ hDX (.mov i j) _ _ hcX HOK.out HT.out HM.out).mono ?_
      rintro e w' ⟨rfl, ht⟩
      have HTT := Lib.hid ht
      obtain ⟨r, S', hrs⟩ : ∃ r S', Dk.change S (.mov i j) = (r, S') := ⟨_, _, rfl⟩
      rw [hrs]
      have HRS := Lib.hid hrs
      clear ht hDX hcX hrs
      go_wp2_with fail
      go_ret
      have ht := HTT.out
      rw [HRS.out] at *
      refine ⟨rfl, ht.from HBV.out (fun k hk => ?_)⟩
      rcases hk with hk | hk | hk
      · exact .inl hk
      all_goals (right; omega)
  · have he : Dk.move S a b = (Dk.ready S [a, b], S) := if_pos hr
    rw [he]
    obtain ⟨x, hx⟩ : ∃ x, Dk.ready S [a, b] = x := ⟨_, rfl⟩
    rw [hx] at hr ⊢
    have hne : (x != 0) = true := by simpa using hr
    have HX := Lib.hid hx
    clear hr hx he
    unfold ptr
    go_enter Try.func57, Try.ntmps57
    go_wp2_with fail
    rw [HW.out, HV.out]
    refine (ready_any [a, b] _ _ d S F HD.out HRD.out).mono ?_
    rintro e w' ⟨rfl, rfl⟩
    rw [HX.out]
    go_wp2_with fail
    go_ret
    exact ⟨rfl, Turned.below H.out HBV.out⟩

end Go.Proofs.Ytllecjhfbojgcaa
