/-
  slices.Equal and the reference's Same walked, on equal contents.
-/
import Derived.Test.YtgoglcggnmfapaaPipeWorks
namespace Go.Proofs.Ytgoglcggnmfapaa
open Go.RowKit Go.Conc

set_option maxHeartbeats 1000000 in
theorem eqRec_same (v1 v2 : Value) (l : List (Int × Int × Int)) (w : World) (h1 : Reads w v1 l.length (recCells l)) (h2 : Reads w v2 l.length (recCells l)) :
    Calls Try.prog 27 #[v1, v2] w fun e w' => e = .returned (.bool true) ∧ ∃ n, w.drewN n = w' := by
  have hlx := h1.lenLe
  unfold maxLen at hlx
  have H1 := Lib.hid h1
  have H2 := Lib.hid h2
  obtain ⟨a1, c1, rfl⟩ := h1.shape
  obtain ⟨a2, c2, rfl⟩ := h2.shape
  clear h1 h2
  go_enter Try.func27, Try.ntmps27
  go_wp2
  go_loopw [13] (fun i wr => ∃ k n : Nat, k ≤ l.length ∧ i = .int .i64 k ∧ wr = w.drewN n) (fun i _ => l.length - (intOf i).toNat)
  case atStart => exact ⟨0, 0, Nat.zero_le _, rfl, rfl⟩
  case round =>
    obtain ⟨k, n, hk, rfl, rfl⟩ := hrel
    by_cases hlt : k < l.length
    · obtain ⟨r, hr⟩ : ∃ r, l[k]? = some r := ⟨l[k], by simp [hlt]⟩
      obtain ⟨b, o, rfl, -, -, hcells⟩ := reads3 H1.out k r hr
      obtain ⟨g0, g1, g2⟩ := hcells k r hr
      obtain ⟨b', o', rfl, -, -, hcells'⟩ := reads3 H2.out k r hr
      obtain ⟨g0', g1', g2'⟩ := hcells' k r hr
      have hi1 : (k : Int) < (l.length : Int) := by omega
      clear hcells hcells' hr
      go_wp2_with fail
      go_quiet (fail)
      go_wp2
      go_roundw
      case rel => exact ⟨k + 1, _, by omega, by go_num, rfl⟩
      case measure => simp [intOf]; omega
    · go_wp2
      go_ret
      exact ⟨rfl, _, rfl⟩

set_option maxHeartbeats 1000000 in
theorem eqI_same (v1 v2 : Value) (l : List Int) (w : World) (h1 : Reads w v1 l.length (ints l)) (h2 : Reads w v2 l.length (ints l)) :
    Calls Try.prog 20 #[v1, v2] w fun e w' => e = .returned (.bool true) ∧ ∃ n, w.drewN n = w' := by
  have hlx := h1.lenLe
  unfold maxLen at hlx
  have H1 := Lib.hid h1
  have H2 := Lib.hid h2
  obtain ⟨a1, c1, rfl⟩ := h1.shape
  obtain ⟨a2, c2, rfl⟩ := h2.shape
  clear h1 h2
  go_enter Try.func20, Try.ntmps20
  go_wp2
  go_loopw [13] (fun i wr => ∃ k n : Nat, k ≤ l.length ∧ i = .int .i64 k ∧ wr = w.drewN n) (fun i _ => l.length - (intOf i).toNat)
  case atStart => exact ⟨0, 0, Nat.zero_le _, rfl, rfl⟩
  case round =>
    obtain ⟨k, n, hk, rfl, rfl⟩ := hrel
    by_cases hlt : k < l.length
    · obtain ⟨x, hx⟩ : ∃ x, l[k]? = some x := ⟨l[k], by simp [hlt]⟩
      obtain ⟨b, o, k1, hv1, -, -, -, hc1⟩ := H1.out.some (by omega)
      obtain ⟨b', o', k2, hv2, -, -, -, hc2⟩ := H2.out.some (by omega)
      cases hv1
      cases hv2
      have g1 := hc1 k _ (ints_at hx)
      have g2 := hc2 k _ (ints_at hx)
      have hi1 : (k : Int) < (l.length : Int) := by omega
      clear hc1 hc2 hx
      go_wp2_with fail
      go_quiet (fail)
      go_wp2
      go_roundw
      case rel => exact ⟨k + 1, _, by omega, by go_num, rfl⟩
      case measure => simp [intOf]; omega
    · go_wp2
      go_ret
      exact ⟨rfl, _, rfl⟩

set_option maxHeartbeats 1000000 in
theorem same_same (x y : Int) (v1 v2 : Value) (l : List (Int × Int × Int)) (w : World) (h1 : Reads w v1 l.length (recCells l)) (h2 : Reads w v2 l.length (recCells l)) :
    Calls Try.prog 17 #[.agg #[.int .i64 x, .int .i64 y, v1], .agg #[.int .i64 x, .int .i64 y, v2]] w fun e w' => e = .returned (.bool true) ∧ Below w.heap.size w w' := by
  have hlx := h1.lenLe
  unfold maxLen at hlx
  have H1 := Lib.hid h1
  have H2 := Lib.hid h2
  obtain ⟨a1, c1, rfl⟩ := h1.shape
  obtain ⟨a2, c2, rfl⟩ := h2.shape
  clear h1 h2
  go_enter Try.func17, Try.ntmps17
  go_wp2
  obtain ⟨A, hA⟩ : ∃ A, w.alloc (.cells #[.int .i64 x, .int .i64 y, .slice a1 l.length c1] 33) = A := ⟨_, rfl⟩
  have hbA : Below w.heap.size w A := by rw [← hA]; exact bel_alloc _ _
  have hbx : A.heap[w.heap.size]? = some (.cells #[.int .i64 x, .int .i64 y, .slice a1 l.length c1] 33) := by rw [← hA]; exact heap_alloc_new w _
  have hsA : A.heap.size = w.heap.size + 1 := by rw [← hA]; simp
  obtain ⟨B, hB⟩ : ∃ B, A.alloc (.cells #[.int .i64 x, .int .i64 y, .slice a2 l.length c2] 33) = B := ⟨_, rfl⟩
  have hbB : Below A.heap.size A B := by rw [← hB]; exact bel_alloc _ _
  have hby : B.heap[A.heap.size]? = some (.cells #[.int .i64 x, .int .i64 y, .slice a2 l.length c2] 33) := by rw [← hB]; exact heap_alloc_new A _
  have hbx := (hbB.block _ (by omega)).trans hbx
  have HAB := Lib.hid (bel_trans hbA hbB)
  have m0 := cells_at hbx 0 _ rfl
  have m1 := cells_at hbx 1 _ rfl
  have m2 := cells_at hbx 2 _ rfl
  rw [hsA] at hby
  have n0 := cells_at hby 0 _ rfl
  have n1 := cells_at hby 1 _ rfl
  have n2 := cells_at hby 2 _ rfl
  simp only [List.getElem_toArray, List.getElem_cons_succ, List.getElem_cons_zero] at m0 m1 m2 n0 n1 n2
  rw [hA, hB]
  clear hA hB hbA hbB hbx hby hsA m0 m1 n0 n1
  go_loopw [5] (fun i wr => ∃ k n : Nat, k ≤ l.length ∧ i = .int .i64 k ∧ wr = B.drewN n) (fun i _ => l.length - (intOf i).toNat)
  case atStart => exact ⟨0, 0, Nat.zero_le _, rfl, rfl⟩
  case round =>
    obtain ⟨k, n, hk, rfl, rfl⟩ := hrel
    by_cases hlt : k < l.length
    · obtain ⟨r, hr⟩ : ∃ r, l[k]? = some r := ⟨l[k], by simp [hlt]⟩
      obtain ⟨b, o, rfl, -, -, hcells⟩ := reads3 (H1.out.below HAB.out) k r hr
      obtain ⟨g0, g1, g2⟩ := hcells k r hr
      obtain ⟨b', o', rfl, -, -, hcells'⟩ := reads3 (H2.out.below HAB.out) k r hr
      obtain ⟨g0', g1', g2'⟩ := hcells' k r hr
      have hi1 : (k : Int) < (l.length : Int) := by omega
      clear hcells hcells' hr
      go_wp2_with fail
      go_quiet (fail)
      go_wp2
      go_roundw
      case rel => exact ⟨k + 1, _, by omega, by go_num, rfl⟩
      case measure => simp [intOf]; omega
    · go_wp2
      go_ret
      exact ⟨rfl, bel_trans HAB.out ⟨rfl, rfl, rfl, Nat.le_refl _, fun _ _ => rfl⟩⟩

end Go.Proofs.Ytgoglcggnmfapaa
