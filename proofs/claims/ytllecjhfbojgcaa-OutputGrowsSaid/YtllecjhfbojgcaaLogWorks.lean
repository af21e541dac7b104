/-
  Open of a file by what stands in it; what 'works' goes through.
-/
import Derived.Test.YtllecjhfbojgcaaLogLive
import Derived.Test.YtllecjhfbojgcaaLogBytes
namespace Go.Proofs.Ytllecjhfbojgcaa
open Go.RowKit
set_option maxRecDepth 20000

namespace Lg
theorem list_eq {a b : ByteArray} (h : a.data.toList = b.data.toList) : a = b := by
  apply ByteArray.ext
  exact Array.toList_inj.1 h

/-- A disk that is on, without a limit. -/
structure Free (D : Dk.St) : Prop where
  off : D.off = false
  left : D.left = -1

theorem Free.read {D : Dk.St} (h : Free D) (f : Nat) (hf : f < 16) : Dk.read D f = (Dk.at' D.now f, 0) := by
  have hr : Dk.ready D [(f : Int)] = 0 := by
    unfold Dk.ready Dk.argE
    rw [h.off, if_neg (by simp), if_pos (by simp [Dk.isF]; omega)]
  unfold Dk.read
  rw [hr, if_neg (by simp), Int.toNat_natCast]
theorem Free.cut {D : Dk.St} (h : Free D) (f n : Nat) (hf : f < 16) (hn : n ≤ (Dk.at' D.now f).size) :
    Dk.cut D f n = (0, { D with now := (Dk.Ch.cut f n).run D.now, loose := D.loose ++ [.cut f n] }) := by
  have hr : Dk.ready D [(f : Int)] = 0 := by
    unfold Dk.ready Dk.argE
    rw [h.off, if_neg (by simp), if_pos (by simp [Dk.isF]; omega)]
  unfold Dk.cut
  rw [hr, if_neg (by simp), Int.toNat_natCast, if_neg (by omega), Int.toNat_natCast]
  unfold Dk.change
  rw [h.left, if_neg (by decide)]
  simp [Dk.less]
theorem Free.sync {D : Dk.St} (h : Free D) : Dk.sync D = (0, { D with sure := D.now, loose := [] }) := by
  unfold Dk.sync
  rw [h.off, h.left]
  simp [Dk.less]

/-- What Open leaves of a file whose records are rs. -/
theorem opened_is {D : Dk.St} (h : Free D) (f : Nat) (hf : f < 16) (hl : D.now.length = 16) (rs : List Rec) (t : List UInt8) (ht : (Dk.at' D.now f).data.toList = bytesOf rs ++ t) (hp : parse (Dk.at' D.now f) = rs) :
    Free (opened D f) ∧ (opened D f).room = D.room ∧ (Dk.at' (opened D f).now f).data.toList = bytesOf rs ∧ (∀ g, g ≠ f → Dk.at' (opened D f).now g = Dk.at' D.now g) ∧ (D.sure = D.now → D.loose = [] → (opened D f).sure = (opened D f).now ∧ (opened D f).loose = []) ∧ (opened D f).loose.length ≤ D.loose.length := by
  have hsz : (Dk.at' D.now f).size = (bytesOf rs).length + t.length := by rw [← len_data, ht, List.length_append]
  unfold opened
  rw [h.read f hf, hp]
  by_cases hlt : (bytesOf rs).length < (Dk.at' D.now f).size
  · rw [if_pos hlt]
    have h1 : Free { D with now := (Dk.Ch.cut f (bytesOf rs).length).run D.now, loose := D.loose ++ [.cut f (bytesOf rs).length] } := ⟨h.off, h.left⟩
    rw [h.cut f _ hf (by omega), h1.sync]
    refine ⟨⟨h.off, h.left⟩, rfl, ?_, fun g hg => ?_, fun _ _ => ⟨rfl, rfl⟩, Nat.zero_le _⟩
    · show (Dk.at' (D.now.set f _) f).data.toList = _
      rw [Dk.at_set_same _ _ _ (by omega), Lib.extract_data, ht]
      simp
    · exact Dk.at_set_ne _ _ _ _ (Ne.symm hg)
  · rw [if_neg hlt]
    have ht0 : t = [] := List.length_eq_zero_iff.1 (by omega)
    rw [ht0, List.append_nil] at ht
    exact ⟨h, rfl, ht, fun _ _ => rfl, fun h1 h2 => ⟨h1, h2⟩, Nat.le_refl _⟩
end Lg

theorem lg_open_at {w0 w : World} {d : Nat} {D : Dk.St} (h : Live w0 w d D) (hF : Lg.Free D) (f : Nat) (hf : f < 16) (rs : List Lg.Rec) (t : List UInt8) (ht : (Dk.at' D.now f).data.toList = Lg.bytesOf rs ++ t) (hp : Lg.parse (Dk.at' D.now f) = rs) (hsz : (Dk.at' D.now f).size ≤ 1000000) (hm : D.loose.length ≤ 1000000000) :
    Calls Try.prog 44 #[ptr d 0, .int .i64 (f : Int)] w fun e w' => ∃ l, e = .returned (.tuple #[ptr l 0, .int .i64 0]) ∧ LgLive w0 w' l d f (Lg.opened D f) ⟨rs, rs.length⟩ := by
  have hr := hF.read f hf
  have hs : (Dk.at' D.now f).size = (Lg.bytesOf rs).length + t.length := by rw [← len_data, ht, List.length_append]
  have hc := hF.cut f (Lg.bytesOf rs).length hf (by omega)
  have h1 : Lg.Free { D with now := (Dk.Ch.cut f (Lg.bytesOf rs).length).run D.now, loose := D.loose ++ [.cut f (Lg.bytesOf rs).length] } := ⟨hF.off, hF.left⟩
  have := lg_open h (f : Int) (by rw [hr]) (by rw [hr]; exact hsz) hm (by rw [hr]; show (Dk.cut D f ((Lg.bytesOf (Lg.parse (Dk.at' D.now f))).length : Nat)).1 = 0; rw [hp, hc]) (by rw [hr]; show (Dk.sync (Dk.cut D f ((Lg.bytesOf (Lg.parse (Dk.at' D.now f))).length : Nat)).2).1 = 0; rw [hp, hc, h1.sync])
  rw [hr] at this
  refine this.mono ?_
  rintro e w' ⟨l, rfl, hl⟩
  rw [hp] at hl
  exact ⟨l, rfl, hl⟩


end Go.Proofs.Ytllecjhfbojgcaa

/-
  The laws' 'works' walked.
-/
namespace Go.Proofs.Ytllecjhfbojgcaa
open Go.RowKit
set_option maxRecDepth 20000

theorem lg_open0 {w0 w : World} {d : Nat} {D : Dk.St} (h : Live w0 w d D) (hF : Lg.Free D) (rs : List Lg.Rec) (t : List UInt8) (ht : (Dk.at' D.now 0).data.toList = Lg.bytesOf rs ++ t) (hp : Lg.parse (Dk.at' D.now 0) = rs) (hsz : (Dk.at' D.now 0).size ≤ 1000000) (hm : D.loose.length ≤ 1000000000) :
    Calls Try.prog 44 #[ptr d 0, .int .i64 0] w fun e w' => ∃ l, e = .returned (.tuple #[ptr l 0, .int .i64 0]) ∧ LgLive w0 w' l d 0 (Lg.opened D 0) ⟨rs, rs.length⟩ :=
  lg_open_at h hF 0 (by decide) rs t ht hp hsz hm

end Go.Proofs.Ytllecjhfbojgcaa
