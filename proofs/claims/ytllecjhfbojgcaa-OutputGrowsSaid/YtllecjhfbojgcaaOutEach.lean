/-
  The output's each, Sync, takes, Mark walked.
-/
import Derived.Test.YtllecjhfbojgcaaOutPut
import Derived.LoopN
namespace Go.Proofs.Ytllecjhfbojgcaa
open Go.RowKit
set_option maxRecDepth 20000

set_option maxHeartbeats 8000000 in
theorem each_any {fr : Fr} {w : World} {o d : Nat} {b l : Bool → Nat} {S : OSt} {col : Nat → Nat} (h : OutAt fr w o d b l S col) (K : FuncId) (hent : ∀ args w, (callFunc K args).run Try.prog w = .ok (.enter K args) w) (x : Value) (f : OSt → Bool → Int × OSt)
    (h0 : ∀ W c, OutAt fr W o d b l S c → Calls Try.prog K #[ptr (b false) 0, x] W fun e w' => e = .returned (.int .i64 (f S false).1) ∧ ∃ c', OutAt fr w' o d b l (f S false).2 c')
    (h1 : ∀ W c, OutAt fr W o d b l (f S false).2 c → Calls Try.prog K #[ptr (b true) 0, x] W fun e w' => e = .returned (.int .i64 (f (f S false).2 true).1) ∧ ∃ c', OutAt fr w' o d b l (f (f S false).2 true).2 c') :
    Calls Try.prog 74 #[ptr o 0, .func (.func K) #[] #[x]] w fun e w' => e = .returned (.int .i64 (S.each f).1) ∧ ∃ c', OutAt fr w' o d b l (S.each f).2 c' := by
  have hc := h.cell
  have c0 := cells_at hc 0 _ rfl
  have c1 := cells_at hc 1 _ rfl
  unfold ptr at c0 c1 h0 h1 ⊢
  simp only [List.getElem_toArray, List.getElem_cons_zero, List.getElem_cons_succ] at c0 c1
  have HE := Lib.hid (show S.each f = if (f S false).1 ≠ 0 then f S false else f (f S false).2 true from rfl)
  obtain ⟨E, T, hET⟩ : ∃ E T, f S false = (E, T) := ⟨_, _, rfl⟩
  rw [hET] at h0 h1 HE
  obtain ⟨E2, T2, hET2⟩ : ∃ E T', f T true = (E, T') := ⟨_, _, rfl⟩
  rw [show f (E, T).2 true = (E2, T2) from hET2] at h1 HE
  obtain ⟨Z, hZ⟩ : ∃ Z, S.each f = Z := ⟨_, rfl⟩
  rw [hZ] at HE ⊢
  have HH := Lib.hid h
  have H0 := Lib.hid h0
  have H1 := Lib.hid h1
  clear h hc h0 h1 hET hET2 hZ
  have hi0 : ∀ W, (Instr.index 135 (.agg #[.pointer (some ⟨b false, 0, none⟩), .pointer (some ⟨b true, 0, none⟩)]) (.int .i64 0)).run Try.prog W = .ok (.pointer (some ⟨b false, 0, none⟩)) W := fun W => by kernel_rfl
  have hi1 : ∀ W, (Instr.index 135 (.agg #[.pointer (some ⟨b false, 0, none⟩), .pointer (some ⟨b true, 0, none⟩)]) (.int .i64 1)).run Try.prog W = .ok (.pointer (some ⟨b true, 0, none⟩)) W := fun W => by kernel_rfl
  go_enter Try.func74, Try.ntmps74
  go_wp2_with fail
  refine wp_loop_rounds 3 ?_
  rw [rounds_succ]
  go_wp2_with fail
  refine (H0.out w col HH.out).mono ?_
  rintro e w1 ⟨rfl, d1, h2⟩
  have H2 := Lib.hid h2
  clear h2
  by_cases hE : E = 0
  · subst hE
    go_wp2_with fail
    rw [rounds_succ]
    go_wp2_with fail
    refine (H1.out w1 d1 H2.out).mono ?_
    rintro e w3 ⟨rfl, d2, h4⟩
    have H4 := Lib.hid h4
    have hz : Z = (E2, T2) := by rw [HE.out, if_neg (by simp)]
    have HZ := Lib.hid hz
    clear h4 hz
    by_cases hE2 : E2 = 0
    · subst hE2
      go_wp2_with fail
      rw [rounds_succ]
      go_wp2_with fail
      go_ret
      rw [HZ.out]
      exact ⟨rfl, d2, H4.out⟩
    · have hb : (E2 != 0) = true := by simpa using hE2
      go_wp2_with fail
      go_ret
      rw [HZ.out]
      exact ⟨rfl, d2, H4.out⟩
  · have hb : (E != 0) = true := by simpa using hE
    have hz : Z = (E, T) := by rw [HE.out, if_pos hE]
    have HZ := Lib.hid hz
    clear hz
    go_wp2_with fail
    go_ret
    rw [HZ.out]
    exact ⟨rfl, d1, H2.out⟩

/-- The same with a function that has nothing about it. -/
theorem each_any0 {fr : Fr} {w : World} {o d : Nat} {b l : Bool → Nat} {S : OSt} {col : Nat → Nat} (h : OutAt fr w o d b l S col) (K : FuncId) (hent : ∀ args w, (callFunc K args).run Try.prog w = .ok (.enter K args) w) (f : OSt → Bool → Int × OSt)
    (h0 : ∀ W c, OutAt fr W o d b l S c → Calls Try.prog K #[ptr (b false) 0] W fun e w' => e = .returned (.int .i64 (f S false).1) ∧ ∃ c', OutAt fr w' o d b l (f S false).2 c')
    (h1 : ∀ W c, OutAt fr W o d b l (f S false).2 c → Calls Try.prog K #[ptr (b true) 0] W fun e w' => e = .returned (.int .i64 (f (f S false).2 true).1) ∧ ∃ c', OutAt fr w' o d b l (f (f S false).2 true).2 c') :
    Calls Try.prog 74 #[ptr o 0, .func (.func K) #[] #[]] w fun e w' => e = .returned (.int .i64 (S.each f).1) ∧ ∃ c', OutAt fr w' o d b l (S.each f).2 c' := by
  have hc := h.cell
  have c0 := cells_at hc 0 _ rfl
  have c1 := cells_at hc 1 _ rfl
  unfold ptr at c0 c1 h0 h1 ⊢
  simp only [List.getElem_toArray, List.getElem_cons_zero, List.getElem_cons_succ] at c0 c1
  have HE := Lib.hid (show S.each f = if (f S false).1 ≠ 0 then f S false else f (f S false).2 true from rfl)
  obtain ⟨E, T, hET⟩ : ∃ E T, f S false = (E, T) := ⟨_, _, rfl⟩
  rw [hET] at h0 h1 HE
  obtain ⟨E2, T2, hET2⟩ : ∃ E T', f T true = (E, T') := ⟨_, _, rfl⟩
  rw [show f (E, T).2 true = (E2, T2) from hET2] at h1 HE
  obtain ⟨Z, hZ⟩ : ∃ Z, S.each f = Z := ⟨_, rfl⟩
  rw [hZ] at HE ⊢
  have HH := Lib.hid h
  have H0 := Lib.hid h0
  have H1 := Lib.hid h1
  clear h hc h0 h1 hET hET2 hZ
  have hi0 : ∀ W, (Instr.index 135 (.agg #[.pointer (some ⟨b false, 0, none⟩), .pointer (some ⟨b true, 0, none⟩)]) (.int .i64 0)).run Try.prog W = .ok (.pointer (some ⟨b false, 0, none⟩)) W := fun W => by kernel_rfl
  have hi1 : ∀ W, (Instr.index 135 (.agg #[.pointer (some ⟨b false, 0, none⟩), .pointer (some ⟨b true, 0, none⟩)]) (.int .i64 1)).run Try.prog W = .ok (.pointer (some ⟨b true, 0, none⟩)) W := fun W => by kernel_rfl
  go_enter Try.func74, Try.ntmps74
  go_wp2_with fail
  refine wp_loop_rounds 3 ?_
  rw [rounds_succ]
  go_wp2_with fail
  refine (H0.out w col HH.out).mono ?_
  rintro e w1 ⟨rfl, d1, h2⟩
  have H2 := Lib.hid h2
  clear h2
  by_cases hE : E = 0
  · subst hE
    go_wp2_with fail
    rw [rounds_succ]
    go_wp2_with fail
    refine (H1.out w1 d1 H2.out).mono ?_
    rintro e w3 ⟨rfl, d2, h4⟩
    have H4 := Lib.hid h4
    have hz : Z = (E2, T2) := by rw [HE.out, if_neg (by simp)]
    have HZ := Lib.hid hz
    clear h4 hz
    by_cases hE2 : E2 = 0
    · subst hE2
      go_wp2_with fail
      rw [rounds_succ]
      go_wp2_with fail
      go_ret
      rw [HZ.out]
      exact ⟨rfl, d2, H4.out⟩
    · have hb : (E2 != 0) = true := by simpa using hE2
      go_wp2_with fail
      go_ret
      rw [HZ.out]
      exact ⟨rfl, d2, H4.out⟩
  · have hb : (E != 0) = true := by simpa using hE
    have hz : Z = (E, T) := by rw [HE.out, if_pos hE]
    have HZ := Lib.hid hz
    clear hz
    go_wp2_with fail
    go_ret
    rw [HZ.out]
    exact ⟨rfl, d1, H2.out⟩

theorem sync1_any {fr : Fr} {w : World} {o d : Nat} {b l : Bool → Nat} {S : OSt} {col : Nat → Nat} (h : OutAt fr w o d b l S col) (p : Bool) :
    Calls Try.prog 75 #[ptr (b p) 0] w fun e w' => e = .returned (.int .i64 (S.lsync p).1) ∧ ∃ c', OutAt fr w' o d b l (S.lsync p).2 c' := by
  obtain ⟨lv, qs, hc, -⟩ := (h.part p).ex
  have c0 := cells_at hc 0 _ rfl
  have hs := oat_sync h p
  unfold ptr at c0 hs ⊢
  simp only [List.getElem_toArray, List.getElem_cons_zero] at c0
  have HS := Lib.hid hs
  obtain ⟨E, T, hET⟩ : ∃ E T, S.lsync p = (E, T) := ⟨_, _, rfl⟩
  rw [hET] at HS ⊢
  clear h hc hs hET
  go_enter Try.func75, Try.ntmps75
  go_wp2_with fail
  refine HS.out.mono ?_
  rintro e w1 ⟨rfl, d1, h2, -⟩
  have H2 := Lib.hid h2
  clear h2
  go_wp2_with fail
  go_ret
  exact ⟨rfl, d1, H2.out⟩
theorem osync_nil (w : World) : Calls Try.prog 37 #[.pointer none] w fun e w' => e = .returned (.int .i64 1) ∧ w = w' := by
  go_enter Try.func37, Try.ntmps37
  go_wp2_with fail
  go_ret
  exact ⟨rfl, rfl⟩
theorem osync_any {fr : Fr} {w : World} {o d : Nat} {S : OSt} (h : OutLive fr w o d S) :
    Calls Try.prog 37 #[ptr o 0] w fun e w' => e = .returned (.int .i64 S.sync.1) ∧ OutLive fr w' o d S.sync.2 := by
  obtain ⟨b, l, col, h⟩ := h
  have he := each_any0 h 75 (enters_run Try.func75 (by kernel_rfl) rfl) OSt.lsync (fun W c hW => sync1_any hW false) (fun W c hW => sync1_any hW true)
  have HE := Lib.hid he
  obtain ⟨Z, hZ⟩ : ∃ Z, S.sync = Z := ⟨_, rfl⟩
  rw [show S.each OSt.lsync = Z from hZ] at HE
  rw [hZ]
  unfold ptr at HE ⊢
  clear h he hZ
  go_enter Try.func37, Try.ntmps37
  go_wp2_with fail
  refine HE.out.mono ?_
  rintro e w1 ⟨rfl, d1, h2⟩
  have H2 := Lib.hid h2
  clear h2
  go_wp2_with fail
  go_ret
  exact ⟨rfl, b, l, d1, H2.out⟩

end Go.Proofs.Ytllecjhfbojgcaa
