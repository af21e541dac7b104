/-
  Bytes that begin with whole frames: the records that are read from them.
-/
import Derived.Test.YtllecjhfbojgcaaLogParse
import Derived.Test.YtllecjhfbojgcaaLogLive
namespace Go.Proofs.Ytllecjhfbojgcaa
namespace Lg

def Good (r : Rec) : Prop := r.kind.toNat ≠ 0 ∧ r.text.size ≤ 65536
instance (r : Rec) : Decidable (Good r) := inferInstanceAs (Decidable (_ ∧ _))
theorem putE_good {r : Rec} : putE r.kind r.text = 0 ↔ Good r := by
  unfold putE Good
  split
  · simp [*]
  · split
    · simp; omega
    · simp; omega

theorem frame_pos (r : Rec) : 0 < (frameB r).length := by
  have h1 := Cl.putF_len r.kind r.text.data.toList
  have h2 := Cl.putText_len r.text.data.toList
  unfold frameB
  omega
theorem frame_le (r : Rec) : (frameB r).length ≤ r.text.size + 15 := by
  have h1 := Cl.putF_len r.kind r.text.data.toList
  have h2 := Cl.putText_len r.text.data.toList
  rw [len_data] at h2
  unfold frameB
  omega
theorem recOf_put (r : Rec) : recOf (r.kind.toNat, r.text.data.toList) = r := by
  obtain ⟨k, ⟨t⟩⟩ := r
  simp [recOf]

theorem allF_bytes (t : List UInt8) (ht : (Cl.takeF t).2.2.2 ≠ 0) : ∀ (rs : List Rec), (∀ r ∈ rs, Good r) → ∀ f, (bytesOf rs ++ t).length ≤ f → recsOf (Cl.allF f (bytesOf rs ++ t)).1 = rs := by
  intro rs
  induction rs with
  | nil =>
    intro _ f hf
    cases f with
    | zero => rfl
    | succ f =>
      show recsOf (Cl.allF (f + 1) t).1 = []
      unfold Cl.allF
      rw [if_pos ht]
      rfl
  | cons r rs ih =>
    intro hg f hf
    obtain ⟨h0, h1⟩ := hg r (by simp)
    have hb : bytesOf (r :: rs) ++ t = Cl.putF r.kind r.text.data.toList ++ (bytesOf rs ++ t) := by simp [bytesOf, frameB]
    rw [hb] at hf ⊢
    rw [List.length_append] at hf
    have hp := frame_pos r
    unfold frameB at hp
    obtain ⟨g, rfl⟩ : ∃ g, f = g + 1 := ⟨f - 1, by omega⟩
    have htk := Cl.takeF_put r.kind r.text.data.toList (bytesOf rs ++ t) h0 (by rw [len_data]; exact h1)
    have e : (Cl.allF (g + 1) (Cl.putF r.kind r.text.data.toList ++ (bytesOf rs ++ t))).1 = (r.kind.toNat, r.text.data.toList) :: (Cl.allF g (bytesOf rs ++ t)).1 := by
      conv => lhs; unfold Cl.allF
      rw [htk]
      simp
    rw [e]
    show recOf _ :: recsOf _ = _
    rw [recOf_put, ih (fun x hx => hg x (by simp [hx])) g (by omega)]

theorem takeF_nil : (Cl.takeF []).2.2.2 ≠ 0 := by decide

theorem parse_bytes (rs : List Rec) (hg : ∀ r ∈ rs, Good r) (t : List UInt8) (ht : (Cl.takeF t).2.2.2 ≠ 0) (s : ByteArray) (hs : s.data.toList = bytesOf rs ++ t) : parse s = rs := by
  unfold parse
  have hl : s.size = (bytesOf rs ++ t).length := by rw [← hs, len_data]
  rw [hs, hl]
  exact allF_bytes t ht rs hg _ (Nat.le_refl _)
theorem parse_torn (rs : List Rec) (hg : ∀ r ∈ rs, Good r) (r : Rec) (hr : Good r) (i : Nat) (hi : i < (frameB r).length) (s : ByteArray) (hs : s.data.toList = bytesOf rs ++ (frameB r).take i) : parse s = rs :=
  parse_bytes rs hg _ (Cl.takeF_short r.kind r.text.data.toList hr.1 (by rw [len_data]; exact hr.2) i hi) s hs
theorem parse_whole (rs : List Rec) (hg : ∀ r ∈ rs, Good r) (s : ByteArray) (hs : s.data.toList = bytesOf rs) : parse s = rs :=
  parse_bytes rs hg [] takeF_nil s (by rw [hs, List.append_nil])

end Lg
end Go.Proofs.Ytllecjhfbojgcaa

/-
  How much a log and its disk hold behind so many calls; what a call leaves of what is sure.
-/
namespace Go.Proofs.Ytllecjhfbojgcaa
namespace Lg

structure Fit (a : Nat) (D : Dk.St) (L : St) : Prop where
  loose : D.loose.length ≤ a
  bytes : (bytesOf L.rs).length ≤ a * 1015

theorem change_loose (D : Dk.St) (c : Dk.Ch) : (Dk.change D c).2.loose.length ≤ D.loose.length + 1 := by
  unfold Dk.change
  split
  · simp
  · simp
theorem append_loose (D : Dk.St) (f : Int) (s : ByteArray) : (Dk.append D f s).2.loose.length ≤ D.loose.length + 1 := by
  unfold Dk.append
  split
  · simp
  · split
    · simp
    · exact change_loose _ _
theorem cut_loose (D : Dk.St) (f n : Int) : (Dk.cut D f n).2.loose.length ≤ D.loose.length + 1 := by
  unfold Dk.cut
  split
  · simp
  · split
    · simp
    · exact change_loose _ _
theorem sync_loose (D : Dk.St) : (Dk.sync D).2.loose.length ≤ D.loose.length := by
  unfold Dk.sync
  split
  · simp
  · split
    · simp
    · simp

set_option maxRecDepth 20000 in
theorem Fit.put {a : Nat} {D : Dk.St} {L : St} (h : Fit a D L) (f : Int) (r : Rec) (hr : r.text.size ≤ 1000) : Fit (a + 1) (put D f L r).2.1 (put D f L r).2.2 := by
  have h1 := h.loose
  have h2 := h.bytes
  have h3 := append_loose D f ⟨(frameB r).toArray⟩
  have h4 := frame_le r
  have h5 : (bytesOf (L.rs ++ [r])).length = (bytesOf L.rs).length + (frameB r).length := by rw [bytes_snoc, List.length_append]
  unfold Lg.put
  split
  · exact ⟨by dsimp only; omega, by dsimp only; omega⟩
  · split
    · exact ⟨by dsimp only; omega, by dsimp only; omega⟩
    · exact ⟨by dsimp only; omega, by dsimp only; omega⟩
set_option maxRecDepth 20000 in
theorem Fit.sync {a : Nat} {D : Dk.St} {L : St} (h : Fit a D L) : Fit a (sync D L).2.1 (sync D L).2.2 := by
  have h1 := h.loose
  have h2 := h.bytes
  have h3 := sync_loose D
  unfold Lg.sync
  split
  · exact ⟨h1, h2⟩
  · split
    · exact ⟨by dsimp only; omega, h2⟩
    · exact ⟨by dsimp only; omega, h2⟩
set_option maxRecDepth 20000 in
theorem Fit.cut {a : Nat} {D : Dk.St} {L : St} (h : Fit a D L) (f k : Int) : Fit (a + 1) (cut D f L k).2.1 (cut D f L k).2.2 := by
  have h1 := h.loose
  have h2 := h.bytes
  unfold Lg.cut
  split
  · exact ⟨by dsimp only; omega, by dsimp only; omega⟩
  · split
    · exact ⟨by dsimp only; omega, by dsimp only; omega⟩
    · have h3 := cut_loose D f (ends L.rs k.toNat)
      have h4 := sync_loose (Dk.cut D f (ends L.rs k.toNat)).2
      have h5 : (bytesOf (L.rs.take k.toNat)).length ≤ (bytesOf L.rs).length := ends_le L.rs k.toNat
      split
      · exact ⟨by dsimp only; omega, by dsimp only; omega⟩
      · unfold cutDone
        split
        · exact ⟨by dsimp only; omega, by dsimp only; omega⟩
        · exact ⟨by dsimp only; omega, by dsimp only; omega⟩
set_option maxRecDepth 20000 in
theorem Fit.mono {a b : Nat} {D : Dk.St} {L : St} (h : Fit a D L) (hab : a ≤ b) : Fit b D L := ⟨by have := h.loose; omega, by have := h.bytes; omega⟩

theorem put_sure (D : Dk.St) (f : Int) (L : St) (r : Rec) : (put D f L r).2.2.sure = L.sure := by
  unfold put
  split
  · rfl
  · split
    · rfl
    · rfl
theorem sync_iff (D : Dk.St) (L : St) : ((sync D L).1 == 0) = ((sync D L).2.2.sure == (sync D L).2.2.rs.length) := by
  unfold sync
  split
  · rename_i h
    simp [h]
  · rename_i h
    split
    · simp
    · rename_i h2
      show ((Dk.sync D).1 == 0) = (L.sure == L.rs.length)
      rw [beq_false_of_ne h2, beq_false_of_ne h]

end Lg
end Go.Proofs.Ytllecjhfbojgcaa

/-
  Open of a file by what stands in it; what 'works' goes through.
-/
namespace Go.Proofs.Ytllecjhfbojgcaa
open Go.RowKit
set_option maxRecDepth 20000

namespace Lg
theorem list_eq {a b : ByteArray} (h : a.data.toList = b.data.toList) : a = b := by
  apply ByteArray.ext
  exact Array.toList_inj.1 h

/-- A disk that is on, without a limit. -/
structure Free (D : Dk.St) : Prop where
  off : D.off = false
  left : D.left = -1

theorem Free.read {D : Dk.St} (h : Free D) (f : Nat) (hf : f < 16) : Dk.read D f = (Dk.at' D.now f, 0) := by
  have hr : Dk.ready D [(f : Int)] = 0 := by
    unfold Dk.ready Dk.argE
    rw [h.off, if_neg (by simp), if_pos (by simp [Dk.isF]; omega)]
  unfold Dk.read
  rw [hr, if_neg (by simp), Int.toNat_natCast]
theorem Free.cut {D : Dk.St} (h : Free D) (f n : Nat) (hf : f < 16) (hn : n ≤ (Dk.at' D.now f).size) :
    Dk.cut D f n = (0, { D with now := (Dk.Ch.cut f n).run D.now, loose := D.loose ++ [.cut f n] }) := by
  have hr : Dk.ready D [(f : Int)] = 0 := by
    unfold Dk.ready Dk.argE
    rw [h.off, if_neg (by simp), if_pos (by simp [Dk.isF]; omega)]
  unfold Dk.cut
  rw [hr, if_neg (by simp), Int.toNat_natCast, if_neg (by omega), Int.toNat_natCast]
  unfold Dk.change
  rw [h.left, if_neg (by decide)]
  simp [Dk.less]
theorem Free.sync {D : Dk.St} (h : Free D) : Dk.sync D = (0, { D with sure := D.now, loose := [] }) := by
  unfold Dk.sync
  rw [h.off, h.left]
  simp [Dk.less]

/-- What Open leaves of a file whose records are rs. -/
theorem opened_is {D : Dk.St} (h : Free D) (f : Nat) (hf : f < 16) (hl : D.now.length = 16) (rs : List Rec) (t : List UInt8) (ht : (Dk.at' D.now f).data.toList = bytesOf rs ++ t) (hp : parse (Dk.at' D.now f) = rs) :
    Free (opened D f) ∧ (opened D f).room = D.room ∧ (Dk.at' (opened D f).now f).data.toList = bytesOf rs ∧ (∀ g, g ≠ f → Dk.at' (opened D f).now g = Dk.at' D.now g) ∧ (D.sure = D.now → D.loose = [] → (opened D f).sure = (opened D f).now ∧ (opened D f).loose = []) ∧ (opened D f).loose.length ≤ D.loose.length := by
  have hsz : (Dk.at' D.now f).size = (bytesOf rs).length + t.length := by rw [← len_data, ht, List.length_append]
  unfold opened
  rw [h.read f hf, hp]
  by_cases hlt : (bytesOf rs).length < (Dk.at' D.now f).size
  · rw [if_pos hlt]
    have h1 : Free { D with now := (Dk.Ch.cut f (bytesOf rs).length).run D.now, loose := D.loose ++ [.cut f (bytesOf rs).length] } := ⟨h.off, h.left⟩
    rw [h.cut f _ hf (by omega), h1.sync]
    refine ⟨⟨h.off, h.left⟩, rfl, ?_, fun g hg => ?_, fun _ _ => ⟨rfl, rfl⟩, Nat.zero_le _⟩
    · show (Dk.at' (D.now.set f _) f).data.toList = _
      rw [Dk.at_set_same _ _ _ (by omega), Lib.extract_data, ht]
      simp
    · exact Dk.at_set_ne _ _ _ _ (Ne.symm hg)
  · rw [if_neg hlt]
    have ht0 : t = [] := List.length_eq_zero_iff.1 (by omega)
    rw [ht0, List.append_nil] at ht
    exact ⟨h, rfl, ht, fun _ _ => rfl, fun h1 h2 => ⟨h1, h2⟩, Nat.le_refl _⟩
end Lg

theorem lg_open_at {w0 w : World} {d : Nat} {D : Dk.St} (h : Live w0 w d D) (hF : Lg.Free D) (f : Nat) (hf : f < 16) (rs : List Lg.Rec) (t : List UInt8) (ht : (Dk.at' D.now f).data.toList = Lg.bytesOf rs ++ t) (hp : Lg.parse (Dk.at' D.now f) = rs) (hsz : (Dk.at' D.now f).size ≤ 5000000) (hm : D.loose.length ≤ 1000000000) :
    Calls Try.prog 44 #[ptr d 0, .int .i64 (f : Int)] w fun e w' => ∃ l, e = .returned (.tuple #[ptr l 0, .int .i64 0]) ∧ LgLive w0 w' l d f (Lg.opened D f) ⟨rs, rs.length⟩ := by
  have hr := hF.read f hf
  have hs : (Dk.at' D.now f).size = (Lg.bytesOf rs).length + t.length := by rw [← len_data, ht, List.length_append]
  have hc := hF.cut f (Lg.bytesOf rs).length hf (by omega)
  have h1 : Lg.Free { D with now := (Dk.Ch.cut f (Lg.bytesOf rs).length).run D.now, loose := D.loose ++ [.cut f (Lg.bytesOf rs).length] } := ⟨hF.off, hF.left⟩
  have := lg_open h (f : Int) (by rw [hr]) (by rw [hr]; exact hsz) hm (by rw [hr]; show (Dk.cut D f ((Lg.bytesOf (Lg.parse (Dk.at' D.now f))).length : Nat)).1 = 0; rw [hp, hc]) (by rw [hr]; show (Dk.sync (Dk.cut D f ((Lg.bytesOf (Lg.parse (Dk.at' D.now f))).length : Nat)).2).1 = 0; rw [hp, hc, h1.sync])
  rw [hr] at this
  refine this.mono ?_
  rintro e w' ⟨l, rfl, hl⟩
  rw [hp] at hl
  exact ⟨l, rfl, hl⟩


end Go.Proofs.Ytllecjhfbojgcaa

/-
  The laws' 'works' walked.
-/
namespace Go.Proofs.Ytllecjhfbojgcaa
open Go.RowKit
set_option maxRecDepth 20000

theorem lg_open0 {w0 w : World} {d : Nat} {D : Dk.St} (h : Live w0 w d D) (hF : Lg.Free D) (rs : List Lg.Rec) (t : List UInt8) (ht : (Dk.at' D.now 0).data.toList = Lg.bytesOf rs ++ t) (hp : Lg.parse (Dk.at' D.now 0) = rs) (hsz : (Dk.at' D.now 0).size ≤ 5000000) (hm : D.loose.length ≤ 1000000000) :
    Calls Try.prog 44 #[ptr d 0, .int .i64 0] w fun e w' => ∃ l, e = .returned (.tuple #[ptr l 0, .int .i64 0]) ∧ LgLive w0 w' l d 0 (Lg.opened D 0) ⟨rs, rs.length⟩ :=
  lg_open_at h hF 0 (by decide) rs t ht hp hsz hm

end Go.Proofs.Ytllecjhfbojgcaa
