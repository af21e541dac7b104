/-
  Append, Cut, Move walked.
-/
import Derived.Test.YtllecjhfbojgcaaDiskChange
import Derived.Deep.QuietTactic
import Derived.BigQuiet
namespace Go.Proofs.Ytllecjhfbojgcaa
open Go.RowKit
set_option maxRecDepth 20000

theorem Turned.from {w W w' : World} {d : Nat} {S' : Dk.St} {F F' : Nat → Prop} (hb : Below w.heap.size w W) (hF : ∀ k, F' k → F k ∨ w.heap.size ≤ k) (h : Turned W w' d S' F') : Turned w w' d S' F := by
  obtain ⟨F'', h1, h2, h3⟩ := h
  refine ⟨F'', (Only.below hb).trans' h1 hF, h2, fun k hk => ?_⟩
  rcases h3 k hk with h | h
  · exact hF k h
  · have := hb.size
    exact .inr (by omega)
theorem DiskAt.grow {w : World} {d : Nat} {S : Dk.St} {F F' : Nat → Prop} (h : DiskAt w d S F) (hF : ∀ k, F k → F' k) (hlt : ∀ k, F' k → k < w.heap.size) : DiskAt w d S F' := by
  obtain ⟨lv, h1, h2⟩ := h.cells
  exact ⟨h.ok, hF _ h.mem, hlt, lv, h1, h2.kept (fun _ _ => rfl) hF⟩
theorem alloc_at (w : World) (o1 o2 : Obj) : ((w.alloc o1).alloc o2).heap[w.heap.size]? = some o1 := (Below.heap_alloc _ _ _ (by simp)).trans (heap_alloc_new w _)

set_option maxHeartbeats 2000000 in
theorem append_bad (w : World) (d : Nat) (S : Dk.St) (F : Nat → Prop) (h : DiskAt w d S F) (f : Int) (s : ByteArray) (hr : Dk.ready S [f] ≠ 0) :
    Calls Try.prog 53 #[ptr d 0, .int .i64 f, .string s] w fun e w' => e = .returned (.int .i64 (Dk.append S f s).1) ∧ Turned w w' d (Dk.append S f s).2 F := by
  have he : Dk.append S f s = (Dk.ready S [f], S) := if_pos hr
  rw [he]
  obtain ⟨x, hx⟩ : ∃ x, Dk.ready S [f] = x := ⟨_, rfl⟩
  rw [hx] at hr ⊢
  have hne : (x != 0) = true := by simpa using hr
  have HX := Lib.hid hx
  have H := Lib.hid h
  obtain ⟨W, hW⟩ : ∃ W, (w.alloc (.cells #[.int .i64 f] 3)).alloc (.cells #[.string s] 9) = W := ⟨_, rfl⟩
  have hbW : Below w.heap.size w W := by rw [← hW]; exact bel_trans (bel_alloc _ _) (bel_alloc _ _)
  have q0 := cells_at (show W.heap[w.heap.size]? = some (.cells #[.int .i64 f] 3) by rw [← hW]; exact alloc_at _ _ _) 0 _ rfl
  simp only [List.getElem_toArray, List.getElem_cons_zero] at q0
  have HW := Lib.hid hW
  have HBW := Lib.hid hbW
  have HD := Lib.hid ((h.below hbW).below (bel_alloc W (.cells #[.int .i64 f] 3)))
  clear h hr hx hW hbW he
  unfold ptr
  go_enter Try.func53, Try.ntmps53
  go_wp2_with fail
  rw [HW.out]
  refine (ready_any [f] _ _ d S F HD.out (lit_ints W #[.int .i64 f] [f] _ (by rw [← HW.out]; simp) rfl (by simp))).mono ?_
  rintro e w' ⟨rfl, rfl⟩
  rw [HX.out]
  go_wp2_with fail
  go_ret
  exact ⟨rfl, Turned.below H.out (bel_trans HBW.out (bel_alloc _ _))⟩

set_option maxHeartbeats 4000000 in
theorem append_good (w : World) (d : Nat) (S : Dk.St) (F : Nat → Prop) (h : DiskAt w d S F) (f : Int) (s : ByteArray) (hm : S.loose.length ≤ 1000000000) (hr : Dk.ready S [f] = 0) :
    Calls Try.prog 53 #[ptr d 0, .int .i64 f, .string s] w fun e w' => e = .returned (.int .i64 (Dk.append S f s).1) ∧ Turned w w' d (Dk.append S f s).2 F := by
  have hr1 := Dk.ready_one hr
  obtain ⟨n, rfl⟩ : ∃ n : Nat, f = n := ⟨f.toNat, by omega⟩
  have hn : n < 16 := by omega
  have he : Dk.append S (n : Int) s = if Dk.leftOf S < (s.size : Int) then (7, S) else Dk.change S (.app n s) := by
    unfold Dk.append
    rw [if_neg (by simpa using hr)]
    rfl
  have hL : -4194304 ≤ Dk.leftOf S ∧ Dk.leftOf S ≤ 4194304 := by
    unfold Dk.leftOf
    have := h.ok.room
    have := h.ok.total
    omega
  have hroom := h.ok.room
  have htot := h.ok.total
  have happ : ¬ Dk.leftOf S < (s.size : Int) → Dk.total ((Dk.Ch.app n s).run S.now) ≤ S.room := fun hle => by
    rw [Dk.total_app _ _ _ (by rw [h.ok.nowL]; exact hn)]
    unfold Dk.leftOf at hle
    omega
  rw [he]
  have HX := Lib.hid hr
  have HAPP := Lib.hid happ
  have HHN := Lib.hid hn
  have HM := Lib.hid hm
  have HLT := Lib.hid h.lt
  have H := Lib.hid h
  obtain ⟨W, hW⟩ : ∃ W, (w.alloc (.cells #[.int .i64 (n : Int)] 3)).alloc (.cells #[.string s] 9) = W := ⟨_, rfl⟩
  have hbW : Below w.heap.size w W := by rw [← hW]; exact bel_trans (bel_alloc _ _) (bel_alloc _ _)
  have hWs : W.heap.size = w.heap.size + 2 := by rw [← hW]; simp
  have ha : W.heap[w.heap.size]? = some (.cells #[.int .i64 (n : Int)] 3) := by rw [← hW]; exact alloc_at _ _ _
  have hb : W.heap[w.heap.size + 1]? = some (.cells #[.string s] 9) := by rw [← hW]; have := heap_alloc_new (w.alloc (.cells #[.int .i64 (n : Int)] 3)) (.cells #[.string s] 9); simpa using this
  obtain ⟨V, hV⟩ : ∃ V, W.alloc (.cells #[.int .i64 (n : Int)] 3) = V := ⟨_, rfl⟩
  have hbV : Below W.heap.size W V := by rw [← hV]; exact bel_alloc _ _
  have hVs : V.heap.size = w.heap.size + 3 := by rw [← hV]; simp; omega
  have ha' := (hbV.block _ (by omega)).trans ha
  have hb' := (hbV.block _ (by omega)).trans hb
  have q0 := cells_at ha' 0 _ rfl
  have q1 := cells_at hb' 0 _ rfl
  simp only [List.getElem_toArray, List.getElem_cons_zero] at q0 q1
  have HD := Lib.hid ((h.below hbW).below hbV)
  have HW := Lib.hid hW
  have HV := Lib.hid hV
  have HBV := Lib.hid (bel_trans hbW hbV)
  have HVS := Lib.hid hVs
  have HA := Lib.hid ha'
  have HB := Lib.hid hb'
  have HRD := Lib.hid (lit_ints W #[.int .i64 (n : Int)] [(n : Int)] (w.heap.size + 2) hWs.symm rfl (by simp))
  clear h hr hr1 hW hbW he happ hn hm ha hb hV hbV hVs ha' hb' hWs hroom htot
  obtain ⟨L, hLL⟩ : ∃ L, Dk.leftOf S = L := ⟨_, rfl⟩
  rw [hLL] at hL ⊢
  have HLL := Lib.hid hLL
  clear hLL
  unfold ptr
  by_cases hc : L < (s.size : Int)
  · rw [if_pos hc]
    have hd : decide (L < (s.size : Int)) = true := by simpa using hc
    clear hc
    go_enter Try.func53, Try.ntmps53
    go_wp2_with fail
    rw [HW.out, HV.out]
    have hrd := HRD.out
    rw [HV.out] at hrd
    refine (ready_any [(n : Int)] _ _ d S F HD.out hrd).mono ?_
    rintro e w' ⟨rfl, rfl⟩
    rw [HX.out]
    clear hrd
    go_wp2_with fail
    go_quiet ((go_at_call 89; exact Calls.quiet_of_same ((left_any _ d S F (HD.out.below (bel_drewN V _))).mono (fun e w' h => ⟨by rw [h.1, HLL.out], h.2.symm⟩))))
    go_wp2_with fail
    go_ret
    exact ⟨rfl, Turned.below H.out (bel_trans HBV.out (bel_drewN _ _))⟩
  · rw [if_neg hc]
    have hd : decide (L < (s.size : Int)) = false := by simpa using hc
    have happ := HAPP.out (by rw [HLL.out]; exact hc)
    have HT := Lib.hid happ
    clear hc happ
    go_enter Try.func53, Try.ntmps53
    go_wp2_with fail
    rw [HW.out, HV.out]
    have hrd := HRD.out
    rw [HV.out] at hrd
    refine (ready_any [(n : Int)] _ _ d S F HD.out hrd).mono ?_
    rintro e w' ⟨rfl, rfl⟩
    rw [HX.out]
    clear hrd
    go_wp2_with fail
    go_quiet ((go_at_call 89; exact Calls.quiet_of_same ((left_any _ d S F (HD.out.below (bel_drewN V _))).mono (fun e w' h => ⟨by rw [h.1, HLL.out], h.2.symm⟩))))
    generalize hU : V.drewN _ = U
    have hbU : Below w.heap.size w U := by rw [← hU]; exact bel_trans HBV.out (bel_drewN _ _)
    have hUs : U.heap.size = w.heap.size + 3 := by rw [← hU]; exact HVS.out
    have hUa : U.heap[w.heap.size]? = some (.cells #[.int .i64 (n : Int)] 3) := by rw [← hU]; exact HA.out
    have hUb : U.heap[w.heap.size + 1]? = some (.cells #[.string s] 9) := by rw [← hU]; exact HB.out
    have hnew := heap_alloc_new U (.cells #[.nilFunc] 111)
    have n0 := cells_at hnew 0 _ rfl
    have z0 := cells_free hnew 0
    simp only [List.getElem_toArray, List.getElem_cons_zero] at n0
    have hst := cells_set hnew 0 (partV w.heap.size (w.heap.size + 1))
    have n1 := cells_at hst 0 _ rfl
    simp only [List.setIfInBounds_toArray, List.set_cons_zero, List.getElem_toArray, List.getElem_cons_zero] at n1 hst
    unfold partV ptr at n1
    obtain ⟨X, hX⟩ : ∃ X, U.alloc (.cells #[partV w.heap.size (w.heap.size + 1)] 111) = X := ⟨_, rfl⟩
    have hbX : Below w.heap.size w X := by rw [← hX]; exact bel_trans hbU (bel_alloc _ _)
    have hbUX : Below U.heap.size U X := by rw [← hX]; exact bel_alloc U _
    have hXp : X.heap[w.heap.size + 3]? = some (.cells #[partV w.heap.size (w.heap.size + 1)] 111) := by rw [← hX, ← hUs]; exact heap_alloc_new U _
    have hXa := (hbUX.block _ (by omega)).trans hUa
    have hXb := (hbUX.block _ (by omega)).trans hUb
    have hXs : X.heap.size = w.heap.size + 4 := by rw [← hX]; simp; omega
    have HUS := Lib.hid hUs
    have HX2 := Lib.hid hX
    have HBX := Lib.hid hbX
    have HXP := Lib.hid hXp
    have HXA := Lib.hid hXa
    have HXB := Lib.hid hXb
    have HXS := Lib.hid hXs
    clear hU hbU hUs hUa hUb hnew hst hX hbX hbUX hXp hXa hXb hXs
    go_wp2_with fail
    have hx := HX2.out
    unfold partV ptr at hx
    rw [hx, HUS.out]
    have hDX : DiskAt X d S (fun k => F k ∨ k = w.heap.size ∨ k = w.heap.size + 1 ∨ k = w.heap.size + 3) := (H.out.below HBX.out).grow (fun k hk => .inl hk) (fun k hk => by
      have := HXS.out
      rcases hk with hk | hk | hk | hk
      · have := HLT.out k hk; omega
      all_goals omega)
    have hcX : ChAt X (fun k => F k ∨ k = w.heap.size ∨ k = w.heap.size + 1 ∨ k = w.heap.size + 3) (.app n s) (appV (w.heap.size + 3) (w.heap.size + 1)) (partV w.heap.size (w.heap.size + 1)) :=
      .app n s _ _ _ HXA.out HXB.out HXP.out (by simp) (by simp) (by simp)
    refine (change_any X d S _ hDX (.app n s) _ _ hcX HHN.out HT.out HM.out).mono ?_
    rintro e w' ⟨rfl, ht⟩
    have HTT := Lib.hid ht
    obtain ⟨r, S', hrs⟩ : ∃ r S', Dk.change S (.app n s) = (r, S') := ⟨_, _, rfl⟩
    rw [hrs]
    have HRS := Lib.hid hrs
    clear ht hDX hcX hx n0 z0 n1 hrs
    go_wp2_with fail
    go_ret
    have ht := HTT.out
    rw [HRS.out] at ht ⊢
    refine ⟨rfl, ht.from HBX.out (fun k hk => ?_)⟩
    rcases hk with hk | hk | hk | hk
    · exact .inl hk
    all_goals (right; omega)

theorem append_any (w : World) (d : Nat) (S : Dk.St) (F : Nat → Prop) (h : DiskAt w d S F) (f : Int) (s : ByteArray) (hm : S.loose.length ≤ 1000000000) :
    Calls Try.prog 53 #[ptr d 0, .int .i64 f, .string s] w fun e w' => e = .returned (.int .i64 (Dk.append S f s).1) ∧ Turned w w' d (Dk.append S f s).2 F := by
  by_cases hr : Dk.ready S [f] = 0
  · exact append_good w d S F h f s hm hr
  · exact append_bad w d S F h f s hr

theorem append_nil (f : Int) (s : ByteArray) (w : World) : Calls Try.prog 53 #[.pointer none, .int .i64 f, .string s] w fun e w' => e = .returned (.int .i64 1) ∧ Below w.heap.size w w' := by
  obtain ⟨W, hW⟩ : ∃ W, (w.alloc (.cells #[.int .i64 f] 3)).alloc (.cells #[.string s] 9) = W := ⟨_, rfl⟩
  have hbW : Below w.heap.size w W := by rw [← hW]; exact bel_trans (bel_alloc _ _) (bel_alloc _ _)
  have HW := Lib.hid hW
  have HBW := Lib.hid hbW
  clear hW hbW
  go_enter Try.func53, Try.ntmps53
  go_wp2_with fail
  rw [HW.out]
  refine (ready_nil _ _).mono ?_
  rintro e w' ⟨rfl, rfl⟩
  go_wp2_with fail
  go_ret
  exact ⟨rfl, bel_trans HBW.out (bel_alloc _ _)⟩

end Go.Proofs.Ytllecjhfbojgcaa

/-
  Cut and Move walked.
-/
namespace Go.Proofs.Ytllecjhfbojgcaa
open Go.RowKit
set_option maxRecDepth 20000

theorem cut_nil (f n : Int) (w : World) : Calls Try.prog 55 #[.pointer none, .int .i64 f, .int .i64 n] w fun e w' => e = .returned (.int .i64 1) ∧ Below w.heap.size w w' := by
  obtain ⟨W, hW⟩ : ∃ W, (w.alloc (.cells #[.int .i64 f] 3)).alloc (.cells #[.int .i64 n] 3) = W := ⟨_, rfl⟩
  have hbW : Below w.heap.size w W := by rw [← hW]; exact bel_trans (bel_alloc _ _) (bel_alloc _ _)
  have HW := Lib.hid hW
  have HBW := Lib.hid hbW
  clear hW hbW
  go_enter Try.func55, Try.ntmps55
  go_wp2_with fail
  rw [HW.out]
  refine (ready_nil _ _).mono ?_
  rintro e w' ⟨rfl, rfl⟩
  go_wp2_with fail
  go_ret
  exact ⟨rfl, bel_trans HBW.out (bel_alloc _ _)⟩

set_option maxHeartbeats 2000000 in
theorem cut_bad (w : World) (d : Nat) (S : Dk.St) (F : Nat → Prop) (h : DiskAt w d S F) (f n : Int) (hr : Dk.ready S [f] ≠ 0) :
    Calls Try.prog 55 #[ptr d 0, .int .i64 f, .int .i64 n] w fun e w' => e = .returned (.int .i64 (Dk.cut S f n).1) ∧ Turned w w' d (Dk.cut S f n).2 F := by
  have he : Dk.cut S f n = (Dk.ready S [f], S) := if_pos hr
  rw [he]
  obtain ⟨x, hx⟩ : ∃ x, Dk.ready S [f] = x := ⟨_, rfl⟩
  rw [hx] at hr ⊢
  have hne : (x != 0) = true := by simpa using hr
  have HX := Lib.hid hx
  have H := Lib.hid h
  obtain ⟨W, hW⟩ : ∃ W, (w.alloc (.cells #[.int .i64 f] 3)).alloc (.cells #[.int .i64 n] 3) = W := ⟨_, rfl⟩
  have hbW : Below w.heap.size w W := by rw [← hW]; exact bel_trans (bel_alloc _ _) (bel_alloc _ _)
  have HW := Lib.hid hW
  have HBW := Lib.hid hbW
  have HD := Lib.hid ((h.below hbW).below (bel_alloc W (.cells #[.int .i64 f] 3)))
  clear h hr hx hW hbW he
  unfold ptr
  go_enter Try.func55, Try.ntmps55
  go_wp2_with fail
  rw [HW.out]
  refine (ready_any [f] _ _ d S F HD.out (lit_ints W #[.int .i64 f] [f] _ (by rw [← HW.out]; simp) rfl (by simp))).mono ?_
  rintro e w' ⟨rfl, rfl⟩
  rw [HX.out]
  go_wp2_with fail
  go_ret
  exact ⟨rfl, Turned.below H.out (bel_trans HBW.out (bel_alloc _ _))⟩

/-- The world in which a change over two boxes of ints is made. -/
theorem boxes (w : World) (f n : Int) (o : Obj) : ∃ W V, (w.alloc (.cells #[.int .i64 f] 3)).alloc (.cells #[.int .i64 n] 3) = W ∧ W.alloc o = V ∧ Below w.heap.size w V ∧ W.heap.size = w.heap.size + 2 ∧ V.heap.size = w.heap.size + 3 ∧
    V.heap[w.heap.size]? = some (.cells #[.int .i64 f] 3) ∧ V.heap[w.heap.size + 1]? = some (.cells #[.int .i64 n] 3) ∧ Below W.heap.size W V ∧ Below w.heap.size w W := by
  refine ⟨_, _, rfl, rfl, bel_trans (bel_trans (bel_alloc _ _) (bel_alloc _ _)) (bel_alloc _ _), by simp, by simp, ?_, ?_, bel_alloc _ _, bel_trans (bel_alloc _ _) (bel_alloc _ _)⟩
  · exact (Below.heap_alloc _ _ _ (by simp; omega)).trans (alloc_at _ _ _)
  · refine (Below.heap_alloc _ _ _ (by simp)).trans ?_
    have := heap_alloc_new (w.alloc (.cells #[.int .i64 f] 3)) (.cells #[.int .i64 n] 3)
    simpa using this

set_option maxHeartbeats 4000000 in
theorem cut_good (w : World) (d : Nat) (S : Dk.St) (F : Nat → Prop) (h : DiskAt w d S F) (f n : Int) (hm : S.loose.length ≤ 1000000000) (hr : Dk.ready S [f] = 0) :
    Calls Try.prog 55 #[ptr d 0, .int .i64 f, .int .i64 n] w fun e w' => e = .returned (.int .i64 (Dk.cut S f n).1) ∧ Turned w w' d (Dk.cut S f n).2 F := by
  have hr1 := Dk.ready_one hr
  obtain ⟨i, rfl⟩ : ∃ i : Nat, f = i := ⟨f.toNat, by omega⟩
  have hi : i < 16 := by omega
  have hii : (i : Int) < 16 := by omega
  have he : Dk.cut S (i : Int) n = if n < 0 ∨ ((Dk.at' S.now i).size : Int) < n then (5, S) else Dk.change S (.cut i n.toNat) := by
    unfold Dk.cut
    rw [if_neg (by simpa using hr)]
    rfl
  rw [he]
  have hz : (Dk.at' S.now i).size ≤ 4194304 := by
    have := Dk.at_le S.now i
    have := h.ok.total
    have := h.ok.room
    omega
  have htot : ∀ m, Dk.total ((Dk.Ch.cut i m).run S.now) ≤ S.room := fun m => by
    have := Dk.total_cut i m S.now (by rw [h.ok.nowL]; exact hi)
    have := h.ok.total
    omega
  obtain ⟨fv, hfv⟩ : ∃ fv, Dk.at' S.now i = fv := ⟨_, rfl⟩
  have HFV := Lib.hid hfv
  have HX := Lib.hid hr
  have HTOT := Lib.hid htot
  have HHI := Lib.hid hi
  have HM := Lib.hid hm
  have HLT := Lib.hid h.lt
  have H := Lib.hid h
  obtain ⟨W, V, hW, hV, hbV, hWs, hVs, ha', hb', hWV, -⟩ := boxes w (i : Int) n (.cells #[.int .i64 (i : Int)] 3)
  have hDV := h.below hbV
  obtain ⟨lo, hcV, -⟩ := hDV.cells
  obtain ⟨qf, -⟩ := now_files hcV h.ok.nowL i hi
  rw [hfv] at qf hz ⊢
  have q0 := cells_at ha' 0 _ rfl
  have q1 := cells_at hb' 0 _ rfl
  simp only [List.getElem_toArray, List.getElem_cons_zero] at q0 q1
  have HD := Lib.hid hDV
  have HW := Lib.hid hW
  have HV := Lib.hid hV
  have HBV := Lib.hid hbV
  have HVS := Lib.hid hVs
  have HA := Lib.hid ha'
  have HB := Lib.hid hb'
  have hrd := lit_ints W #[.int .i64 (i : Int)] [(i : Int)] (w.heap.size + 2) hWs.symm rfl (by simp)
  rw [hV] at hrd
  have HRD := Lib.hid hrd
  clear h hr hr1 hW hV hbV he hm htot ha' hb' hWs hVs hWV hDV hcV hfv hrd hi
  unfold ptr
  by_cases h0 : n < 0
  · rw [if_pos (.inl h0)]
    have hd0 : decide (n < 0) = true := by simpa using h0
    clear h0
    go_enter Try.func55, Try.ntmps55
    go_wp2_with fail
    rw [HW.out, HV.out]
    refine (ready_any [(i : Int)] _ _ d S F HD.out HRD.out).mono ?_
    rintro e w' ⟨rfl, rfl⟩
    rw [HX.out]
    go_wp2_with fail
    go_quiet (fail)
    go_wp2_with fail
    go_ret
    exact ⟨rfl, Turned.below H.out (bel_trans HBV.out (bel_drewN _ _))⟩
  · obtain ⟨m, rfl⟩ : ∃ m : Nat, n = m := ⟨n.toNat, by omega⟩
    have hd0 : decide ((m : Int) < 0) = false := by simp
    by_cases h1 : fv.size < m
    · rw [if_pos (.inr (by omega))]
      have hd1 : decide ((fv.size : Int) < (m : Int)) = true := by simpa using h1
      have hd2 : decide (fv.size < m) = true := by simpa using h1
      clear h0 h1
      go_enter Try.func55, Try.ntmps55
      go_wp2_with fail
      rw [HW.out, HV.out]
      refine (ready_any [(i : Int)] _ _ d S F HD.out HRD.out).mono ?_
      rintro e w' ⟨rfl, rfl⟩
      rw [HX.out]
      go_wp2_with fail
      go_quiet (fail)
      go_wp2_with fail
      go_ret
      exact ⟨rfl, Turned.below H.out (bel_trans HBV.out (bel_drewN _ _))⟩
    · rw [if_neg (by omega)]
      have hd1 : decide ((fv.size : Int) < (m : Int)) = false := by simpa using h1
      have hd2 : decide (fv.size < m) = false := by simpa using h1
      have HLE := Lib.hid (Nat.le_of_not_lt h1)
      clear h0 h1
      go_enter Try.func55, Try.ntmps55
      go_wp2_with fail
      rw [HW.out, HV.out]
      refine (ready_any [(i : Int)] _ _ d S F HD.out HRD.out).mono ?_
      rintro e w' ⟨rfl, rfl⟩
      rw [HX.out]
      go_wp2_with fail
      go_quiet (fail)
      generalize hU : V.drewN _ = U
      have hbU : Below w.heap.size w U := by rw [← hU]; exact bel_trans HBV.out (bel_drewN _ _)
      have hUs : U.heap.size = w.heap.size + 3 := by rw [← hU]; exact HVS.out
      have hUa : U.heap[w.heap.size]? = some (.cells #[.int .i64 (i : Int)] 3) := by rw [← hU]; exact HA.out
      have hUb : U.heap[w.heap.size + 1]? = some (.cells #[.int .i64 (m : Int)] 3) := by rw [← hU]; exact HB.out
      have HBU := Lib.hid hbU
      have HUS := Lib.hid hUs
      have HUA := Lib.hid hUa
      have HUB := Lib.hid hUb
      clear hU hbU hUs hUa hUb
      go_wp2_with fail
      have hDX : DiskAt U d S (fun k => F k ∨ k = w.heap.size ∨ k = w.heap.size + 1) := (H.out.below HBU.out).grow (fun k hk => .inl hk) (fun k hk => by
        have := HUS.out
        rcases hk with hk | hk | hk
        · have := HLT.out k hk; omega
        all_goals omega)
      have hcX : ChAt U (fun k => F k ∨ k = w.heap.size ∨ k = w.heap.size + 1) (.cut i m) (cutV w.heap.size (w.heap.size + 1)) .nilFunc :=
        .cut i m _ _ HUA.out HUB.out (by simp) (by simp)
      refine (change_any U d S _ hDX (.cut i m) _ _ hcX ⟨HHI.out, by rw [HFV.out]; exact HLE.out⟩ (HTOT.out m) HM.out).mono ?_
      rintro e w' ⟨rfl, ht⟩
      have HTT := Lib.hid ht
      obtain ⟨r, S', hrs⟩ : ∃ r S', Dk.change S (.cut i m) = (r, S') := ⟨_, _, rfl⟩
      rw [hrs]
      have HRS := Lib.hid hrs
      clear ht hDX hcX hrs
      go_wp2_with fail
      go_ret
      have ht := HTT.out
      rw [Int.toNat_natCast, HRS.out] at *
      refine ⟨rfl, ht.from HBU.out (fun k hk => ?_)⟩
      rcases hk with hk | hk | hk
      · exact .inl hk
      all_goals (right; omega)

theorem cut_any (w : World) (d : Nat) (S : Dk.St) (F : Nat → Prop) (h : DiskAt w d S F) (f n : Int) (hm : S.loose.length ≤ 1000000000) :
    Calls Try.prog 55 #[ptr d 0, .int .i64 f, .int .i64 n] w fun e w' => e = .returned (.int .i64 (Dk.cut S f n).1) ∧ Turned w w' d (Dk.cut S f n).2 F := by
  by_cases hr : Dk.ready S [f] = 0
  · exact cut_good w d S F h f n hm hr
  · exact cut_bad w d S F h f n hr

end Go.Proofs.Ytllecjhfbojgcaa

/-
  Move walked.
-/
namespace Go.Proofs.Ytllecjhfbojgcaa
open Go.RowKit
set_option maxRecDepth 20000

theorem move_nil (a b : Int) (w : World) : Calls Try.prog 57 #[.pointer none, .int .i64 a, .int .i64 b] w fun e w' => e = .returned (.int .i64 1) ∧ Below w.heap.size w w' := by
  obtain ⟨W, hW⟩ : ∃ W, (w.alloc (.cells #[.int .i64 a] 3)).alloc (.cells #[.int .i64 b] 3) = W := ⟨_, rfl⟩
  have hbW : Below w.heap.size w W := by rw [← hW]; exact bel_trans (bel_alloc _ _) (bel_alloc _ _)
  have q0 := cells_at (show W.heap[w.heap.size]? = some (.cells #[.int .i64 a] 3) by rw [← hW]; exact alloc_at _ _ _) 0 _ rfl
  simp only [List.getElem_toArray, List.getElem_cons_zero] at q0
  have HW := Lib.hid hW
  have HBW := Lib.hid hbW
  clear hW hbW
  go_enter Try.func57, Try.ntmps57
  go_wp2_with fail
  rw [HW.out]
  refine (ready_nil _ _).mono ?_
  rintro e w' ⟨rfl, rfl⟩
  go_wp2_with fail
  go_ret
  exact ⟨rfl, bel_trans HBW.out (bel_alloc _ _)⟩

set_option maxHeartbeats 4000000 in
theorem move_any (w : World) (d : Nat) (S : Dk.St) (F : Nat → Prop) (h : DiskAt w d S F) (a b : Int) (hm : S.loose.length ≤ 1000000000) :
    Calls Try.prog 57 #[ptr d 0, .int .i64 a, .int .i64 b] w fun e w' => e = .returned (.int .i64 (Dk.move S a b).1) ∧ Turned w w' d (Dk.move S a b).2 F := by
  have HLT := Lib.hid h.lt
  have H := Lib.hid h
  obtain ⟨W, V, hW, hV, hbV, hWs, hVs, ha', hb', -, -⟩ := boxes w a b (.cells #[.int .i64 a, .int .i64 b] 3)
  have hDV := h.below hbV
  have q0 := cells_at ha' 0 _ rfl
  have q1 := cells_at hb' 0 _ rfl
  simp only [List.getElem_toArray, List.getElem_cons_zero] at q0 q1
  have HD := Lib.hid hDV
  have HW := Lib.hid hW
  have HV := Lib.hid hV
  have HBV := Lib.hid hbV
  have HVS := Lib.hid hVs
  have HA := Lib.hid ha'
  have HB := Lib.hid hb'
  have hrd := lit_ints W #[.int .i64 a, .int .i64 b] [a, b] (w.heap.size + 2) hWs.symm rfl (by simp)
  rw [hV] at hrd
  have HRD := Lib.hid hrd
  have HOKS := Lib.hid h.ok
  clear h hW hV hbV ha' hb' hWs hVs hDV hrd
  by_cases hr : Dk.ready S [a, b] = 0
  · have hr1 := Dk.ready_two hr
    by_cases hab : a = b
    · have he : Dk.move S a b = (2, S) := by
        unfold Dk.move
        rw [if_neg (by simpa using hr), if_pos hab]
      rw [he]
      have HX := Lib.hid hr
      subst hab
      clear hr hr1 he
      unfold ptr
      go_enter Try.func57, Try.ntmps57
      go_wp2_with fail
      rw [HW.out, HV.out]
      refine (ready_any [a, a] _ _ d S F HD.out HRD.out).mono ?_
      rintro e w' ⟨rfl, rfl⟩
      rw [HX.out]
      go_wp2_with fail
      go_ret
      exact ⟨rfl, Turned.below H.out HBV.out⟩
    · obtain ⟨i, rfl⟩ : ∃ i : Nat, a = i := ⟨a.toNat, by omega⟩
      obtain ⟨j, rfl⟩ : ∃ j : Nat, b = j := ⟨b.toNat, by omega⟩
      have he : Dk.move S (i : Int) (j : Int) = Dk.change S (.mov i j) := by
        unfold Dk.move
        rw [if_neg (by simpa using hr), if_neg hab]
        rfl
      rw [he]
      have hok : i < 16 ∧ j < 16 ∧ i ≠ j := by omega
      have hd : ((i : Int) == (j : Int)) = false := by simpa using hab
      have hd2 : (i == j) = false := by simpa using hok.2.2
      have HOK := Lib.hid hok
      have HT := Lib.hid (show Dk.total ((Dk.Ch.mov i j).run S.now) ≤ S.room by
        have := Dk.total_mov i j S.now (by rw [HOKS.out.nowL]; omega) (by rw [HOKS.out.nowL]; omega) hok.2.2
        have := HOKS.out.total
        omega)
      have HX := Lib.hid hr
      have HM := Lib.hid hm
      clear hr hr1 hab he hok hm
      unfold ptr
      go_enter Try.func57, Try.ntmps57
      go_wp2_with fail
      rw [HW.out, HV.out]
      refine (ready_any [(i : Int), (j : Int)] _ _ d S F HD.out HRD.out).mono ?_
      rintro e w' ⟨rfl, rfl⟩
      rw [HX.out]
      go_wp2_with fail
      have hDX : DiskAt V d S (fun k => F k ∨ k = w.heap.size ∨ k = w.heap.size + 1) := (H.out.below HBV.out).grow (fun k hk => .inl hk) (fun k hk => by
        have := HVS.out
        rcases hk with hk | hk | hk
        · have := HLT.out k hk; omega
        all_goals omega)
      have hcX : ChAt V (fun k => F k ∨ k = w.heap.size ∨ k = w.heap.size + 1) (.mov i j) (movV w.heap.size (w.heap.size + 1)) .nilFunc :=
        .mov i j _ _ HA.out HB.out (by simp) (by simp)
      refine (change_any V d S _ hDX (.mov i j) _ _ hcX HOK.out HT.out HM.out).mono ?_
      rintro e w' ⟨rfl, ht⟩
      have HTT := Lib.hid ht
      obtain ⟨r, S', hrs⟩ : ∃ r S', Dk.change S (.mov i j) = (r, S') := ⟨_, _, rfl⟩
      rw [hrs]
      have HRS := Lib.hid hrs
      clear ht hDX hcX hrs
      go_wp2_with fail
      go_ret
      have ht := HTT.out
      rw [HRS.out] at *
      refine ⟨rfl, ht.from HBV.out (fun k hk => ?_)⟩
      rcases hk with hk | hk | hk
      · exact .inl hk
      all_goals (right; omega)
  · have he : Dk.move S a b = (Dk.ready S [a, b], S) := if_pos hr
    rw [he]
    obtain ⟨x, hx⟩ : ∃ x, Dk.ready S [a, b] = x := ⟨_, rfl⟩
    rw [hx] at hr ⊢
    have hne : (x != 0) = true := by simpa using hr
    have HX := Lib.hid hx
    clear hr hx he
    unfold ptr
    go_enter Try.func57, Try.ntmps57
    go_wp2_with fail
    rw [HW.out, HV.out]
    refine (ready_any [a, b] _ _ d S F HD.out HRD.out).mono ?_
    rintro e w' ⟨rfl, rfl⟩
    rw [HX.out]
    go_wp2_with fail
    go_ret
    exact ⟨rfl, Turned.below H.out HBV.out⟩

end Go.Proofs.Ytllecjhfbojgcaa
