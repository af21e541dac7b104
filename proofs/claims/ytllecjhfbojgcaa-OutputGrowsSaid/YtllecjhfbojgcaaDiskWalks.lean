/-
  The disk's small functions walked: New, is, ready, op, On, Loose, Left.
-/
import Derived.Test.YtllecjhfbojgcaaDiskAt
namespace Go.Proofs.Ytllecjhfbojgcaa
open Go.RowKit
set_option maxRecDepth 20000

theorem is_any (f : Int) (w : World) :
    Calls Try.prog 88 #[.int .i64 f] w fun e w' => e = .returned (.bool (Dk.isF f)) ∧ w = w' := by
  by_cases h : 0 ≤ f
  · have h0 : decide ((0 : Int) ≤ f) = true := by simpa using h
    obtain ⟨b, hb⟩ : ∃ b, decide (f < 16) = b := ⟨_, rfl⟩
    have hi : Dk.isF f = b := by simp [Dk.isF, h, hb]
    rw [hi]
    clear hi h
    go_enter Try.func88, Try.ntmps88
    go_wp2_with fail
    go_ret
    exact ⟨rfl, rfl⟩
  · have h0 : decide ((0 : Int) ≤ f) = false := by simpa using h
    have hi : Dk.isF f = false := by simp [Dk.isF, h]
    rw [hi]
    clear hi h
    go_enter Try.func88, Try.ntmps88
    go_wp2_with fail
    go_ret
    exact ⟨rfl, rfl⟩

theorem new_bad (room : Int) (w : World) (h : ¬ (1 ≤ room ∧ room ≤ 4194304)) :
    Calls Try.prog 12 #[.int .i64 room] w fun e w' => e = .returned (.tuple #[.pointer none, .int .i64 2]) ∧ w = w' := by
  by_cases h1 : room < 1
  · have h0 : decide (room < 1) = true := by simpa using h1
    clear h h1
    go_enter Try.func12, Try.ntmps12
    go_wp2_with fail
    go_ret2
    exact ⟨rfl, rfl⟩
  · have h0 : decide (room < 1) = false := by simpa using h1
    have h2 : decide (4194304 < room) = true := by simp; omega
    clear h h1
    go_enter Try.func12, Try.ntmps12
    go_wp2_with fail
    go_ret2
    exact ⟨rfl, rfl⟩

theorem new_ok (room : Nat) (w : World) (h : 1 ≤ room ∧ room ≤ 4194304) :
    Calls Try.prog 12 #[.int .i64 (room : Int)] w fun e w' => e = .returned (.tuple #[ptr w.heap.size 0, .int .i64 0]) ∧ Below w.heap.size w w' ∧ DiskAt w' w.heap.size (Dk.fresh room) (fun k => k = w.heap.size) ∧ w'.heap.size = w.heap.size + 1 := by
  have h0 : decide ((room : Int) < 1) = false := by simp; omega
  have h2 : decide (4194304 < (room : Int)) = false := by simp; omega
  have H := Lib.hid h
  clear h
  go_enter Try.func12, Try.ntmps12
  go_wp2_with fail
  go_ret2
  refine ⟨rfl, bel_alloc _ _, ⟨Dk.fresh_ok _ H.out.2, rfl, fun k hk => by subst hk; simp, _, heap_alloc_new w _, LooseAt.nil _ _⟩, by simp⟩

theorem ready_nil (lv : Value) (w : World) :
    Calls Try.prog 52 #[.pointer none, lv] w fun e w' => e = .returned (.int .i64 1) ∧ w = w' := by
  go_enter Try.func52, Try.ntmps52
  go_wp2_with fail
  go_ret
  exact ⟨rfl, rfl⟩

theorem all_take {l : List Int} {k : Nat} {x : Int} (h : l[k]? = some x) : (l.take (k + 1)).all Dk.isF = ((l.take k).all Dk.isF && Dk.isF x) := by
  rw [take_snoc_of l k x h]
  simp

theorem ready_off (lv : Value) (w : World) (d : Nat) (S : Dk.St) (F : Nat → Prop) (h : DiskAt w d S F) (ho : S.off = true) :
    Calls Try.prog 52 #[ptr d 0, lv] w fun e w' => e = .returned (.int .i64 50) ∧ w = w' := by
  obtain ⟨lo, hc, hl⟩ := h.cells
  have c34 := cells_at hc 34 (.bool S.off) (by simpa [diskCells] using diskL_rest h.ok lo 1)
  rw [ho] at c34
  clear h hc hl
  unfold ptr
  go_enter Try.func52, Try.ntmps52
  go_wp2_with fail
  go_ret
  exact ⟨rfl, rfl⟩

set_option maxHeartbeats 1000000 in
theorem ready_on (l : List Int) (lv : Value) (w : World) (d : Nat) (S : Dk.St) (F : Nat → Prop) (h : DiskAt w d S F) (ho : S.off = false) (hr : Reads w lv l.length (ints l)) :
    Calls Try.prog 52 #[ptr d 0, lv] w fun e w' => e = .returned (.int .i64 (Dk.argE l)) ∧ w = w' := by
  obtain ⟨lo, hc, hl⟩ := h.cells
  have c34 := cells_at hc 34 (.bool S.off) (by simpa [diskCells] using diskL_rest h.ok lo 1)
  rw [ho] at c34
  clear h hc hl
  have hlen := hr.lenLe
  unfold maxLen at hlen
  obtain ⟨a, c, rfl⟩ := hr.shape
  have HR := Lib.hid hr
  clear hr
  unfold ptr
  go_enter Try.func52, Try.ntmps52
  go_wp2
  go_loop [17] (fun i => ∃ k : Nat, k ≤ l.length ∧ i = .int .i64 k ∧ (l.take k).all Dk.isF = true) (fun i => l.length - (intOf i).toNat)
  case atStart => exact ⟨0, Nat.zero_le _, rfl, rfl⟩
  case round =>
    obtain ⟨k, hk, rfl, ha⟩ := hrel
    have HA := Lib.hid ha
    clear ha
    by_cases hlt : k < l.length
    · obtain ⟨b, o, cp, hv, hcap, _, _, hcells⟩ := HR.out.some (by omega)
      simp only [Value.slice.injEq] at hv
      obtain ⟨rfl, -, rfl⟩ := hv
      obtain ⟨x, hx⟩ : ∃ x, l[k]? = some x := ⟨l[k], by simp⟩
      have hcx := ints_cell hcells k x hx
      have HX := Lib.hid (all_take hx)
      have HXX := Lib.hid hx
      clear hcells hx
      cases hb : Dk.isF x with
      | true =>
        have HB := Lib.hid hb
        clear hb
        go_wp2_with fail
        refine (is_any x _).mono ?_
        rintro e w' ⟨rfl, rfl⟩
        rw [HB.out]
        go_wp2_with fail
        go_round
        case rel => exact ⟨k + 1, by omega, by go_num, by rw [HX.out, HA.out, HB.out]; rfl⟩
        case measure => simp [intOf]; omega
      | false =>
        have HB := Lib.hid hb
        clear hb
        go_wp2_with fail
        refine (is_any x _).mono ?_
        rintro e w' ⟨rfl, rfl⟩
        rw [HB.out]
        go_wp2_with fail
        go_ret
        have : ¬ l.all Dk.isF = true := by
          intro hall
          have := List.all_eq_true.1 hall x (List.mem_of_getElem? HXX.out)
          rw [HB.out] at this
          cases this
        exact ⟨ret_int (Dk.argE_bad this).symm, rfl⟩
    · obtain rfl : k = l.length := by omega
      go_wp2_with fail
      go_ret
      exact ⟨ret_int (Dk.argE_ok (by have := HA.out; rwa [List.take_length] at this)).symm, rfl⟩

theorem ready_any (l : List Int) (lv : Value) (w : World) (d : Nat) (S : Dk.St) (F : Nat → Prop) (h : DiskAt w d S F) (hr : Reads w lv l.length (ints l)) :
    Calls Try.prog 52 #[ptr d 0, lv] w fun e w' => e = .returned (.int .i64 (Dk.ready S l)) ∧ w = w' := by
  unfold Dk.ready
  cases ho : S.off with
  | true => exact (ready_off lv w d S F h ho).mono fun e w' ⟨h1, h2⟩ => ⟨by rw [h1]; rfl, h2⟩
  | false => exact (ready_on l lv w d S F h ho hr).mono fun e w' ⟨h1, h2⟩ => ⟨by rw [h1]; rfl, h2⟩

end Go.Proofs.Ytllecjhfbojgcaa
