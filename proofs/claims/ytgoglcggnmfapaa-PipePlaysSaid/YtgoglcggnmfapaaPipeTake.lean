/-
  Take, New; no pipe.
-/
import Derived.Test.YtgoglcggnmfapaaPipeWalks
namespace Go.Proofs.Ytgoglcggnmfapaa
open Go.RowKit Go.Conc

/-- The messages of a pipe, the eldest first. -/
def msgsOf (hd : Option (Nat × MsgV)) (q : List MsgV) : List MsgV := (match hd with | none => [] | some (_, m) => [m]) ++ q
theorem msgsOf_len (hd : Option (Nat × MsgV)) (q : List MsgV) : (msgsOf hd q).length = q.length + held hd := by
  cases hd <;> simp [msgsOf, held]

theorem head_some (w : World) (pb cb cap : Nat) (hd : Option (Nat × MsgV)) (q : List MsgV) (m : MsgV) (rest : List MsgV) (h : PipeAt w pb cb cap hd q) (hL : msgsOf hd q = m :: rest) (hlv : ∃ a n c, m.lv = .slice a n c) :
    Calls Try.prog 13 #[.pointer (some ⟨pb, 0, none⟩)] w fun e w' => e = .returned (.tuple #[m.val, .int .i64 0]) ∧ ∃ hb, Only (fun k => k = pb ∨ k = cb) w w' ∧ PipeAt w' pb cb cap (some (hb, m)) rest := by
  cases hd with
  | none =>
    have e : q = m :: rest := by simpa [msgsOf] using hL
    subst e
    exact (head_recv w pb cb cap m rest h hlv).mono fun e w' ⟨h1, hb, _, h3, h4⟩ => ⟨h1, hb, h3, h4⟩
  | some x =>
    obtain ⟨hb, m'⟩ := x
    obtain ⟨rfl, rfl⟩ : m' = m ∧ q = rest := by simpa [msgsOf] using hL
    exact (head_held w pb cb cap hb m' q h hlv).mono fun e w' ⟨h1, h2⟩ => ⟨h1, hb, Only.below h2, h.below h2⟩

theorem head_none' (w : World) (pb cb cap : Nat) (hd : Option (Nat × MsgV)) (q : List MsgV) (h : PipeAt w pb cb cap hd q) (hL : msgsOf hd q = []) :
    Calls Try.prog 13 #[.pointer (some ⟨pb, 0, none⟩)] w fun e w' => e = .returned (.tuple #[zeroMsg, .int .i64 4]) ∧ Below w.heap.size w w' := by
  cases hd with
  | none =>
    have e : q = [] := by simpa [msgsOf] using hL
    subst e
    exact head_none w pb cb cap h
  | some x => simp [msgsOf] at hL

theorem take_none (w : World) (pb cb cap : Nat) (hd : Option (Nat × MsgV)) (q : List MsgV) (h : PipeAt w pb cb cap hd q) (hL : msgsOf hd q = []) :
    Calls Try.prog 15 #[.pointer (some ⟨pb, 0, none⟩)] w fun e w' => e = .returned (.tuple #[zeroMsg, .int .i64 4]) ∧ Below w.heap.size w w' := by
  have HK := Lib.hid (fun w' (hb : Below w.heap.size w w') => h.below hb)
  clear h
  go_enter Try.func15, Try.ntmps15
  go_wp2_with fail
  refine (head_none' _ pb cb cap hd q (HK.out _ (bel_alloc _ _)) hL).mono ?_
  rintro e w1 ⟨rfl, hb1⟩
  unfold zeroMsg
  have hres : w1.heap[w.heap.size]? = some (.cells #[.int .i64 0, .int .i64 0, .slice none 0 0] 33) := (hb1.block _ (by simp)).trans (heap_alloc_new w _)
  have f0 := cells_at hres 0 _ rfl
  have f1 := cells_at hres 1 _ rfl
  have f2 := cells_at hres 2 _ rfl
  have z0 := cells_free hres 0
  have z1 := cells_free hres 1
  have z2 := cells_free hres 2
  have hls : w.heap.size < w1.heap.size := (Array.getElem?_eq_some_iff.1 hres).1
  have HRES := Lib.hid hres
  have HB1 := Lib.hid (bel_trans (bel_alloc w _) hb1)
  clear hres hb1 hL
  go_wp2_with fail
  have hr := cells_set3 HRES.out (.int .i64 0) (.int .i64 0) (.slice none 0 0)
  have hb2 := below_set3 HB1.out w.heap.size (Nat.le_refl _) (.int .i64 0) (.int .i64 0) (.slice none 0 0)
  obtain ⟨X, hX⟩ : ∃ X, (((w1.setCell ⟨w.heap.size, 0, none⟩ (.int .i64 0)).setCell ⟨w.heap.size, 1, none⟩ (.int .i64 0)).setCell ⟨w.heap.size, 2, none⟩ (.slice none 0 0)) = X := ⟨_, rfl⟩
  rw [hX] at hr hb2 ⊢
  obtain ⟨o, ho⟩ : ∃ o, (Obj.cells #[.int .i64 0, .int .i64 0, .slice none 0 0] 33) = o := ⟨_, rfl⟩
  have hr5 := (Below.heap_alloc X o w.heap.size (Array.getElem?_eq_some_iff.1 hr).1).trans hr
  rw [ho]
  have q0 := cells_at hr5 0 _ rfl
  have q1 := cells_at hr5 1 _ rfl
  have q2 := cells_at hr5 2 _ rfl
  refine bodyPost_ret (v := .tuple #[zeroMsg, .int .i64 4]) (by simp [results, Try.results15, go_sem, q0, q1, q2, zeroMsg]) rfl ⟨rfl, ?_⟩
  exact bel_trans hb2 (bel_alloc _ _)

set_option maxHeartbeats 1000000 in
theorem take_some (w : World) (pb cb cap : Nat) (hd : Option (Nat × MsgV)) (q : List MsgV) (m : MsgV) (rest : List MsgV) (h : PipeAt w pb cb cap hd q) (hL : msgsOf hd q = m :: rest) (hlv : ∃ a n c, m.lv = .slice a n c) :
    Calls Try.prog 15 #[.pointer (some ⟨pb, 0, none⟩)] w fun e w' => e = .returned (.tuple #[m.val, .int .i64 0]) ∧ Only (fun k => k = pb ∨ k = cb) w w' ∧ PipeAt w' pb cb cap none rest := by
  have HK := Lib.hid (fun w' (hb : Below w.heap.size w w') => h.below hb)
  have hlt := h.lt
  obtain ⟨a, n, c, hl⟩ := id hlv
  have hv : m.val = .agg #[.int .i64 m.seq, .int .i64 m.bar, .slice a n c] := by unfold MsgV.val; rw [hl]
  have HV := Lib.hid hv
  clear h hl hv
  go_enter Try.func15, Try.ntmps15
  go_wp2_with fail
  refine (head_some _ pb cb cap hd q m rest (HK.out _ (bel_alloc _ _)) hL hlv).mono ?_
  rintro e w1 ⟨rfl, hb, hon, hP⟩
  rw [HV.out]
  have hres : w1.heap[w.heap.size]? = some (.cells #[.int .i64 0, .int .i64 0, .slice none 0 0] 33) := (hon.block _ (by simp) (by simp; omega)).trans (heap_alloc_new w _)
  have f0 := cells_at hres 0 _ rfl
  have f1 := cells_at hres 1 _ rfl
  have f2 := cells_at hres 2 _ rfl
  have z0 := cells_free hres 0
  have z1 := cells_free hres 1
  have z2 := cells_free hres 2
  have p1 := cells_at hP.pipe 1 _ rfl
  have y1 := cells_free hP.pipe 1
  have hls : w.heap.size < w1.heap.size := (Array.getElem?_eq_some_iff.1 hres).1
  have hls2 : pb < w1.heap.size := hP.lt.1
  have hne0 : w.heap.size ≠ pb := by omega
  have HRES := Lib.hid hres
  have HON := Lib.hid ((Only.below (S := fun k => k = pb ∨ k = cb) (bel_alloc w _)).trans hon)
  have HP := Lib.hid hP
  have HLT := Lib.hid hlt
  clear hres hon hP hL hlv hlt
  go_wp2_with fail
  obtain ⟨X, hX⟩ : ∃ X, ((((w1.setCell ⟨pb, 1, none⟩ (.pointer none)).setCell ⟨w.heap.size, 0, none⟩ (.int .i64 m.seq)).setCell ⟨w.heap.size, 1, none⟩ (.int .i64 m.bar)).setCell ⟨w.heap.size, 2, none⟩ (.slice a n c)) = X := ⟨_, rfl⟩
  have hP := HP.out
  have hlt := HLT.out
  have hne1 : w.heap.size ≠ cb := by have := hlt.2.1; omega
  have hXs : X.heap.size = w1.heap.size := by rw [← hX]; simp
  have hpb : X.heap[pb]? = some (.cells #[.chan (some cb), .pointer none] 58) := by
    rw [← hX, set3_other (fun e => hne0 e.symm), cells_set hP.pipe]; simp
  obtain ⟨s, r, hch⟩ := hP.chan
  have hcb : X.heap[cb]? = some (.chan cap (rest.map MsgV.val).toArray false s r false) := by
    rw [← hX, set3_other (fun e => hne1 e.symm), Below.heap_setCell _ _ _ _ (fun e => hP.ne e.symm)]; exact hch
  have hrs : X.heap[w.heap.size]? = some (.cells #[.int .i64 m.seq, .int .i64 m.bar, .slice a n c] 33) := by
    rw [← hX]
    exact cells_set3 ((Below.heap_setCell _ _ _ _ hne0).trans HRES.out) _ _ _
  have hon : Only (fun k => k = pb ∨ k = cb) w X := by
    have h1 := HON.out.trans (Only.setCell (fun k => k = pb ∨ k = cb) w1 ⟨pb, 1, none⟩ (.pointer none) (.inl rfl))
    refine ⟨by rw [← hX]; exact h1.os, by rw [← hX]; exact h1.tape, by rw [← hX]; exact h1.output, by omega, fun k hk hs => ?_⟩
    rw [← hX, set3_other (by omega)]
    exact h1.block k hk hs
  rw [hX]
  obtain ⟨o, ho⟩ : ∃ o, (Obj.cells #[.int .i64 m.seq, .int .i64 m.bar, .slice a n c] 33) = o := ⟨_, rfl⟩
  have hold : ∀ k, k < X.heap.size → (X.alloc o).heap[k]? = X.heap[k]? := fun k hk => Below.heap_alloc X o k hk
  have hr5 := (hold _ (by omega)).trans hrs
  have q0 := cells_at hr5 0 _ rfl
  have q1 := cells_at hr5 1 _ rfl
  have q2 := cells_at hr5 2 _ rfl
  rw [ho]
  refine bodyPost_ret (v := .tuple #[.agg #[.int .i64 m.seq, .int .i64 m.bar, .slice a n c], .int .i64 0]) (by simp [results, Try.results15, go_sem, q0, q1, q2]) rfl ⟨by rw [HV.out], hon.trans (Only.below (bel_alloc _ _)), ?_⟩
  refine ⟨(hold _ (by omega)).trans hpb, ⟨s, r, (hold _ (Array.getElem?_eq_some_iff.1 hcb).1).trans hcb⟩, (fun _ _ e => by cases e), ?_, hP.capB⟩
  have := hP.room
  simp only [held] at this ⊢
  omega

theorem mk_chan (n : Nat) (hn : n ≤ 8) (w : World) : (Instr.makeChan 55 (.int .i64 n)).run Try.prog w = .ok (.chan (some w.heap.size)) (w.alloc (.chan n #[] false 0 0 false)) := by
  have h : (Try.prog.info? 33).map (·.bytes) = some 40 := by kernel_rfl
  obtain ⟨i, hi, hb⟩ := Option.map_eq_some_iff.1 h
  exact run_makeChan (P := Try.prog) (w := w) Try.underlying55 hi .i64 n (by omega) (by rw [hb]; omega)

theorem new_ok (n : Nat) (w : World) (h1 : 1 ≤ n) (h8 : n ≤ 8) :
    Calls Try.prog 9 #[.int .i64 n] w fun e w' => e = .returned (.tuple #[.pointer (some ⟨w.heap.size + 1, 0, none⟩), .int .i64 0]) ∧ Below w.heap.size w w' ∧ PipeAt w' (w.heap.size + 1) w.heap.size n none [] := by
  have hmc := mk_chan n h8 w
  have hd1 : decide ((n : Int) < 1) = false := by simp; omega
  have hd8 : decide ((8 : Int) < n) = false := by simp; omega
  go_enter Try.func9, Try.ntmps9
  go_wp2_with fail
  go_ret2
  refine ⟨rfl, bel_trans (bel_alloc _ _) (bel_alloc _ _), ?_⟩
  have e1 := heap_alloc_new (w.alloc (.chan n #[] false 0 0 false)) (.cells #[.chan (some w.heap.size), .pointer none] 58)
  rw [World.size_alloc] at e1
  refine ⟨e1, ⟨0, 0, ?_⟩, (fun _ _ e => by cases e), by simp [held], h8⟩
  exact (Below.heap_alloc _ _ _ (by simp)).trans (heap_alloc_new w _)

theorem new_bad (n : Int) (w : World) (h : n < 1 ∨ 8 < n) :
    Calls Try.prog 9 #[.int .i64 n] w fun e w' => e = .returned (.tuple #[.pointer none, .int .i64 2]) ∧ w = w' := by
  by_cases h1 : n < 1
  · have hd1 : decide (n < 1) = true := by simp; omega
    go_enter Try.func9, Try.ntmps9
    go_wp2_with fail
    go_ret2
    exact ⟨rfl, rfl⟩
  · have hd1 : decide (n < 1) = false := by simp; omega
    have hd8 : decide (8 < n) = true := by simp; omega
    go_enter Try.func9, Try.ntmps9
    go_wp2_with fail
    go_ret2
    exact ⟨rfl, rfl⟩

theorem len_nil (w : World) : Calls Try.prog 18 #[.pointer none] w fun e w' => e = .returned (.int .i64 0) ∧ w = w' := by
  go_enter Try.func18, Try.ntmps18
  go_wp2_with fail
  go_ret
  exact ⟨rfl, rfl⟩
theorem room_nil (w : World) : Calls Try.prog 19 #[.pointer none] w fun e w' => e = .returned (.int .i64 0) ∧ w = w' := by
  go_enter Try.func19, Try.ntmps19
  go_wp2_with fail
  go_ret
  exact ⟨rfl, rfl⟩
theorem pput_nil (a b : Int) (w : World) : Calls Try.prog 11 #[.pointer none, .agg #[.int .i64 a, .int .i64 b, .slice none 0 0]] w fun e w' => e = .returned (.int .i64 1) ∧ Below w.heap.size w w' := by
  go_enter Try.func11, Try.ntmps11
  go_wp2_with fail
  go_ret
  exact ⟨rfl, bel_alloc _ _⟩
theorem head_nil (w : World) : Calls Try.prog 13 #[.pointer none] w fun e w' => e = .returned (.tuple #[zeroMsg, .int .i64 1]) ∧ Below w.heap.size w w' := by
  go_enter Try.func13, Try.ntmps13
  go_wp2_with fail
  refine bodyPost_ret (v := .tuple #[zeroMsg, .int .i64 1]) (by simp [results, Try.results13, go_sem, zeroMsg]) rfl ⟨rfl, ?_⟩
  exact bel_alloc _ _
theorem take_nil (w : World) : Calls Try.prog 15 #[.pointer none] w fun e w' => e = .returned (.tuple #[zeroMsg, .int .i64 1]) ∧ Below w.heap.size w w' := by
  go_enter Try.func15, Try.ntmps15
  go_wp2_with fail
  refine (head_nil _).mono ?_
  rintro e w1 ⟨rfl, hb1⟩
  unfold zeroMsg
  have hres : w1.heap[w.heap.size]? = some (.cells #[.int .i64 0, .int .i64 0, .slice none 0 0] 33) := (hb1.block _ (by simp)).trans (heap_alloc_new w _)
  have f0 := cells_at hres 0 _ rfl
  have f1 := cells_at hres 1 _ rfl
  have f2 := cells_at hres 2 _ rfl
  have z0 := cells_free hres 0
  have z1 := cells_free hres 1
  have z2 := cells_free hres 2
  have hls : w.heap.size < w1.heap.size := (Array.getElem?_eq_some_iff.1 hres).1
  have HRES := Lib.hid hres
  have HB1 := Lib.hid (bel_trans (bel_alloc w _) hb1)
  clear hres hb1
  go_wp2_with fail
  have hr := cells_set3 HRES.out (.int .i64 0) (.int .i64 0) (.slice none 0 0)
  have hb2 := below_set3 HB1.out w.heap.size (Nat.le_refl _) (.int .i64 0) (.int .i64 0) (.slice none 0 0)
  obtain ⟨X, hX⟩ : ∃ X, (((w1.setCell ⟨w.heap.size, 0, none⟩ (.int .i64 0)).setCell ⟨w.heap.size, 1, none⟩ (.int .i64 0)).setCell ⟨w.heap.size, 2, none⟩ (.slice none 0 0)) = X := ⟨_, rfl⟩
  rw [hX] at hr hb2 ⊢
  obtain ⟨o, ho⟩ : ∃ o, (Obj.cells #[.int .i64 0, .int .i64 0, .slice none 0 0] 33) = o := ⟨_, rfl⟩
  have hr5 := (Below.heap_alloc X o w.heap.size (Array.getElem?_eq_some_iff.1 hr).1).trans hr
  rw [ho]
  have q0 := cells_at hr5 0 _ rfl
  have q1 := cells_at hr5 1 _ rfl
  have q2 := cells_at hr5 2 _ rfl
  refine bodyPost_ret (v := .tuple #[zeroMsg, .int .i64 1]) (by simp [results, Try.results15, go_sem, q0, q1, q2, zeroMsg]) rfl ⟨rfl, ?_⟩
  exact bel_trans hb2 (bel_alloc _ _)

end Go.Proofs.Ytgoglcggnmfapaa
