/-
  The closure of Move walked.
-/
import Derived.Test.YtllecjhfbojgcaaDiskClos
import Derived.Deep.RegionLaw
import Derived.BigRegion
namespace Go.Proofs.Ytllecjhfbojgcaa
open Go.RowKit
set_option maxRecDepth 20000

set_option maxHeartbeats 4000000 in
theorem mov_clos (w : World) (b o : Nat) (fs : Dk.Files) (hf : FilesAt w b o fs) (f g : Nat) (hf16 : f < 16) (hg16 : g < 16) (hfg : f ≠ g) (x y : Nat) (hxb : x ≠ b)
    (hx : w.heap[x]? = some (.cells #[.int .i64 (f : Int)] 3)) (hy : w.heap[y]? = some (.cells #[.int .i64 (g : Int)] 3)) :
    Calls Try.prog 95 #[ptr b o, ptr x 0, ptr y 0] w fun e w' => e = .returned (.tuple #[]) ∧ w' = ((w.setCell ⟨b, o + g, none⟩ (.string (Dk.at' fs f))).setCell ⟨b, o + f, none⟩ (.string ByteArray.empty)).drew := by
  obtain ⟨hc, hfr⟩ := hf f hf16
  obtain ⟨hcg, hfrg⟩ := hf g hg16
  have cx := cells_at hx 0 _ rfl
  have cy := cells_at hy 0 _ rfl
  simp only [List.getElem_toArray, List.getElem_cons_zero] at cx cy
  obtain ⟨fv, hfv⟩ : ∃ fv, Dk.at' fs f = fv := ⟨_, rfl⟩
  rw [hfv] at hc ⊢
  have cx2 : (w.setCell ⟨b, o + g, none⟩ (.string fv)).cell? ⟨x, 0, none⟩ = some (.int .i64 (f : Int)) := by
    rw [World.cell?_of_block (Below.heap_setCell _ _ _ _ (by exact hxb))]; exact cx
  have cf2 : (w.setCell ⟨b, o + g, none⟩ (.string fv)).cell? ⟨b, o + f, none⟩ = some (.string fv) := by
    rw [World.cell?_setCell_other]
    · exact hc
    · intro e
      simp only [Addr.mk.injEq] at e
      omega
  have hfi : (f : Int) < 16 := by omega
  have hgi : (g : Int) < 16 := by omega
  clear hf hx hy hfv hxb
  unfold ptr
  go_enter Try.func95, Try.ntmps95
  go_wp2_with fail
  go_region_law (fail)
  all_goals
    go_wp2_with fail
    go_end0
    exact ⟨rfl, rfl⟩

end Go.Proofs.Ytllecjhfbojgcaa
