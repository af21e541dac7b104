/-
  A log whose file holds its records' bytes, on a disk with room and without a limit: Put and Cut.
-/
import Derived.Test.YtdkhidajmhmjpaaLogWorks
namespace Go.Proofs.Ytdkhidajmhmjpaa
namespace Lg

structure Holds (D : Dk.St) (f : Nat) (L : St) : Prop where
  free : Free D
  len : D.now.length = 16
  room : D.room = 4194304
  bytes : (Dk.at' D.now f).data.toList = bytesOf L.rs
  total : Dk.total D.now = (bytesOf L.rs).length
  good : ∀ r ∈ L.rs, Good r

theorem Holds.size {D : Dk.St} {f : Nat} {L : St} (h : Holds D f L) : (Dk.at' D.now f).size = (bytesOf L.rs).length := by
  rw [← len_data, h.bytes]

theorem Free.append {D : Dk.St} (h : Free D) (f : Nat) (hf : f < 16) (s : ByteArray) (hs : Dk.total D.now + s.size ≤ D.room) : Dk.append D f s = (0, { D with now := (Dk.Ch.app f s).run D.now, loose := D.loose ++ [.app f s] }) := by
  have hr : Dk.ready D [(f : Int)] = 0 := by
    unfold Dk.ready Dk.argE
    rw [h.off, if_neg (by simp), if_pos (by simp [Dk.isF]; omega)]
  unfold Dk.append
  rw [hr, if_neg (by simp), if_neg (by unfold Dk.leftOf; omega), Int.toNat_natCast]
  unfold Dk.change
  rw [h.left, if_neg (by decide)]
  simp [Dk.less]

theorem Holds.put_bad {D : Dk.St} {f : Nat} {L : St} (r : Rec) (hk : r.kind.toNat = 0) : put D f L r = (2, D, L) := by
  have : putE r.kind r.text = 2 := if_pos hk
  unfold Lg.put
  rw [this, if_pos (by decide)]

theorem Holds.put {D : Dk.St} {f : Nat} {L : St} (h : Holds D f L) (hf : f < 16) (r : Rec) (hk : r.kind.toNat ≠ 0) (hr : r.text.size ≤ 1000) (hb : (bytesOf L.rs).length ≤ 400000) :
    (Lg.put D f L r).1 = 0 ∧ (Lg.put D f L r).2.2 = { L with rs := L.rs ++ [r] } ∧ Holds (Lg.put D f L r).2.1 f { L with rs := L.rs ++ [r] } := by
  have hg : Good r := ⟨hk, by omega⟩
  have he := putE_good.2 hg
  have hl := frame_le r
  have hsz : (⟨(frameB r).toArray⟩ : ByteArray).size = (frameB r).length := List.size_toArray
  have ha := h.free.append f hf ⟨(frameB r).toArray⟩ (by rw [h.total, h.room, hsz]; omega)
  have hp : Lg.put D f L r = (0, { D with now := (Dk.Ch.app f ⟨(frameB r).toArray⟩).run D.now, loose := D.loose ++ [.app f ⟨(frameB r).toArray⟩] }, { L with rs := L.rs ++ [r] }) := by
    unfold Lg.put
    rw [if_neg (by simpa using he), ha, if_neg (by simp)]
  rw [hp]
  refine ⟨rfl, rfl, ⟨h.free.off, h.free.left⟩, ?_, h.room, ?_, ?_, fun x hx => ?_⟩
  · show ((Dk.Ch.app f _).run D.now).length = 16
    rw [Dk.run_len, h.len]
  · show (Dk.at' (D.now.set f _) f).data.toList = _
    rw [Dk.at_set_same _ _ _ (by rw [h.len]; exact hf), bytes_snoc]
    simp [h.bytes]
  · show Dk.total ((Dk.Ch.app f _).run D.now) = _
    rw [Dk.total_app _ _ _ (by rw [h.len]; exact hf), h.total, hsz]
    show _ = (bytesOf (L.rs ++ [r])).length
    rw [bytes_snoc, List.length_append]
  · have hx : x ∈ L.rs ++ [r] := hx
    rcases List.mem_append.1 hx with hx | hx
    · exact h.good x hx
    · rw [List.mem_singleton] at hx
      subst hx
      exact hg

theorem cut_range {D : Dk.St} {f : Int} {L : St} (q : Int) (hq : ¬ (0 ≤ q ∧ q ≤ (L.rs.length : Int))) : Lg.cut D f L q = (5, D, L) := by
  unfold Lg.cut
  rw [if_pos (by omega)]

theorem Holds.cut {D : Dk.St} {f : Nat} {L : St} (h : Holds D f L) (hf : f < 16) (k : Nat) (hk : k ≤ L.rs.length) :
    (Lg.cut D f L k).1 = 0 ∧ (Lg.cut D f L k).2.2.rs = L.rs.take k ∧ Holds (Lg.cut D f L k).2.1 f (Lg.cut D f L k).2.2 := by
  by_cases hkl : k = L.rs.length
  · subst hkl
    have hc : Lg.cut D f L L.rs.length = (0, D, L) := by
      unfold Lg.cut
      rw [if_neg (by omega), if_pos rfl]
    rw [hc]
    exact ⟨rfl, by rw [List.take_length], h⟩
  · have hle := ends_le L.rs k
    have hcu := h.free.cut f (ends L.rs k) hf (by rw [h.size]; exact hle)
    have hfr : Free { D with now := (Dk.Ch.cut f (ends L.rs k)).run D.now, loose := D.loose ++ [.cut f (ends L.rs k)] } := ⟨h.free.off, h.free.left⟩
    have hc : Lg.cut D f L k = (0, { D with now := (Dk.Ch.cut f (ends L.rs k)).run D.now, loose := [], sure := (Dk.Ch.cut f (ends L.rs k)).run D.now }, ⟨L.rs.take k, k⟩) := by
      unfold Lg.cut
      rw [if_neg (by omega), if_neg (by omega), Int.toNat_natCast, hcu, if_neg (by simp)]
      unfold cutDone
      rw [hfr.sync, if_pos rfl]
    rw [hc]
    refine ⟨rfl, rfl, ⟨h.free.off, h.free.left⟩, ?_, h.room, ?_, ?_, fun x hx => h.good x (List.mem_of_mem_take hx)⟩
    · show ((Dk.Ch.cut f _).run D.now).length = 16
      rw [Dk.run_len, h.len]
    · show (Dk.at' (D.now.set f _) f).data.toList = bytesOf (L.rs.take k)
      rw [Dk.at_set_same _ _ _ (by rw [h.len]; exact hf), Lib.extract_data, h.bytes]
      simp only [List.drop_zero, Nat.sub_zero]
      exact take_bytes L.rs k
    · show Dk.total (D.now.set f ((Dk.at' D.now f).extract 0 (ends L.rs k))) = (bytesOf (L.rs.take k)).length
      have := Dk.total_set D.now f ((Dk.at' D.now f).extract 0 (ends L.rs k)) (by rw [h.len]; exact hf)
      rw [ByteArray.size_extract, h.size, h.total] at this
      show _ = ends L.rs k
      omega

theorem Holds.fresh (f : Nat) (hf : f < 16) : Holds (Dk.fresh 4194304) f ⟨[], 0⟩ := by
  refine ⟨⟨rfl, rfl⟩, by decide, rfl, ?_, by decide, fun r hr => by cases hr⟩
  show (Dk.at' Dk.none' f).data.toList = []
  have : Dk.at' Dk.none' f = ByteArray.empty := by
    unfold Dk.at' Dk.none'
    rw [List.getD_eq_getElem?_getD, List.getElem?_replicate, if_pos hf]
    rfl
  rw [this]
  rfl

end Lg
end Go.Proofs.Ytdkhidajmhmjpaa
