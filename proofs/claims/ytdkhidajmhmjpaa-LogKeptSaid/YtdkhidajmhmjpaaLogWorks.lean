/-
  Open of a file by what stands in it; what 'works' goes through.
-/
import Derived.Test.YtdkhidajmhmjpaaLogLive
import Derived.Test.YtdkhidajmhmjpaaLogBytes
namespace Go.Proofs.Ytdkhidajmhmjpaa
open Go.RowKit
set_option maxRecDepth 20000

namespace Lg
theorem list_eq {a b : ByteArray} (h : a.data.toList = b.data.toList) : a = b := by
  apply ByteArray.ext
  exact Array.toList_inj.1 h

/-- A disk that is on, without a limit. -/
structure Free (D : Dk.St) : Prop where
  off : D.off = false
  left : D.left = -1

theorem Free.read {D : Dk.St} (h : Free D) (f : Nat) (hf : f < 16) : Dk.read D f = (Dk.at' D.now f, 0) := by
  have hr : Dk.ready D [(f : Int)] = 0 := by
    unfold Dk.ready Dk.argE
    rw [h.off, if_neg (by simp), if_pos (by simp [Dk.isF]; omega)]
  unfold Dk.read
  rw [hr, if_neg (by simp), Int.toNat_natCast]
theorem Free.cut {D : Dk.St} (h : Free D) (f n : Nat) (hf : f < 16) (hn : n ≤ (Dk.at' D.now f).size) :
    Dk.cut D f n = (0, { D with now := (Dk.Ch.cut f n).run D.now, loose := D.loose ++ [.cut f n] }) := by
  have hr : Dk.ready D [(f : Int)] = 0 := by
    unfold Dk.ready Dk.argE
    rw [h.off, if_neg (by simp), if_pos (by simp [Dk.isF]; omega)]
  unfold Dk.cut
  rw [hr, if_neg (by simp), Int.toNat_natCast, if_neg (by omega), Int.toNat_natCast]
  unfold Dk.change
  rw [h.left, if_neg (by decide)]
  simp [Dk.less]
theorem Free.sync {D : Dk.St} (h : Free D) : Dk.sync D = (0, { D with sure := D.now, loose := [] }) := by
  unfold Dk.sync
  rw [h.off, h.left]
  simp [Dk.less]

/-- What Open leaves of a file whose records are rs. -/
theorem opened_is {D : Dk.St} (h : Free D) (f : Nat) (hf : f < 16) (hl : D.now.length = 16) (rs : List Rec) (t : List UInt8) (ht : (Dk.at' D.now f).data.toList = bytesOf rs ++ t) (hp : parse (Dk.at' D.now f) = rs) :
    Free (opened D f) ∧ (opened D f).room = D.room ∧ (Dk.at' (opened D f).now f).data.toList = bytesOf rs ∧ (∀ g, g ≠ f → Dk.at' (opened D f).now g = Dk.at' D.now g) ∧ (D.sure = D.now → D.loose = [] → (opened D f).sure = (opened D f).now ∧ (opened D f).loose = []) ∧ (opened D f).loose.length ≤ D.loose.length := by
  have hsz : (Dk.at' D.now f).size = (bytesOf rs).length + t.length := by rw [← len_data, ht, List.length_append]
  unfold opened
  rw [h.read f hf, hp]
  by_cases hlt : (bytesOf rs).length < (Dk.at' D.now f).size
  · rw [if_pos hlt]
    have h1 : Free { D with now := (Dk.Ch.cut f (bytesOf rs).length).run D.now, loose := D.loose ++ [.cut f (bytesOf rs).length] } := ⟨h.off, h.left⟩
    rw [h.cut f _ hf (by omega), h1.sync]
    refine ⟨⟨h.off, h.left⟩, rfl, ?_, fun g hg => ?_, fun _ _ => ⟨rfl, rfl⟩, Nat.zero_le _⟩
    · show (Dk.at' (D.now.set f _) f).data.toList = _
      rw [Dk.at_set_same _ _ _ (by omega), Lib.extract_data, ht]
      simp
    · exact Dk.at_set_ne _ _ _ _ (Ne.symm hg)
  · rw [if_neg hlt]
    have ht0 : t = [] := List.length_eq_zero_iff.1 (by omega)
    rw [ht0, List.append_nil] at ht
    exact ⟨h, rfl, ht, fun _ _ => rfl, fun h1 h2 => ⟨h1, h2⟩, Nat.le_refl _⟩
end Lg

theorem lg_open_at {w0 w : World} {d : Nat} {D : Dk.St} (h : Live w0 w d D) (hF : Lg.Free D) (f : Nat) (hf : f < 16) (rs : List Lg.Rec) (t : List UInt8) (ht : (Dk.at' D.now f).data.toList = Lg.bytesOf rs ++ t) (hp : Lg.parse (Dk.at' D.now f) = rs) (hsz : (Dk.at' D.now f).size ≤ 1000000) (hm : D.loose.length ≤ 1000000000) :
    Calls Try.prog 9 #[ptr d 0, .int .i64 (f : Int)] w fun e w' => ∃ l, e = .returned (.tuple #[ptr l 0, .int .i64 0]) ∧ LgLive w0 w' l d f (Lg.opened D f) ⟨rs, rs.length⟩ := by
  have hr := hF.read f hf
  have hs : (Dk.at' D.now f).size = (Lg.bytesOf rs).length + t.length := by rw [← len_data, ht, List.length_append]
  have hc := hF.cut f (Lg.bytesOf rs).length hf (by omega)
  have h1 : Lg.Free { D with now := (Dk.Ch.cut f (Lg.bytesOf rs).length).run D.now, loose := D.loose ++ [.cut f (Lg.bytesOf rs).length] } := ⟨hF.off, hF.left⟩
  have := lg_open h (f : Int) (by rw [hr]) (by rw [hr]; exact hsz) hm (by rw [hr]; show (Dk.cut D f ((Lg.bytesOf (Lg.parse (Dk.at' D.now f))).length : Nat)).1 = 0; rw [hp, hc]) (by rw [hr]; show (Dk.sync (Dk.cut D f ((Lg.bytesOf (Lg.parse (Dk.at' D.now f))).length : Nat)).2).1 = 0; rw [hp, hc, h1.sync])
  rw [hr] at this
  refine this.mono ?_
  rintro e w' ⟨l, rfl, hl⟩
  rw [hp] at hl
  exact ⟨l, rfl, hl⟩

def wr1 : Lg.Rec := ⟨1, ⟨#[97]⟩⟩
def wr2 : Lg.Rec := ⟨2, ⟨#[]⟩⟩
def wr3 : Lg.Rec := ⟨3, ⟨#[98]⟩⟩
def wl0 : Dk.St := Dk.fresh 1000
def wl1 : Dk.St := (Lg.put wl0 0 ⟨[], 0⟩ wr1).2.1
def wl2 : Dk.St := (Lg.put wl1 0 ⟨[wr1], 0⟩ wr2).2.1
def wl3 : Dk.St := (Lg.sync wl2 ⟨[wr1, wr2], 0⟩).2.1
def wl4 : Dk.St := (Lg.put wl3 0 ⟨[wr1, wr2], 2⟩ wr3).2.1
def wl5 : Dk.St := Dk.crash wl4 0 0
theorem wl_p1 : (Lg.put wl0 0 ⟨[], 0⟩ wr1).1 = 0 ∧ (Lg.put wl0 0 ⟨[], 0⟩ wr1).2.2 = ⟨[wr1], 0⟩ := ⟨by kernel_rfl, by kernel_rfl⟩
theorem wl_p2 : (Lg.put wl1 0 ⟨[wr1], 0⟩ wr2).1 = 0 ∧ (Lg.put wl1 0 ⟨[wr1], 0⟩ wr2).2.2 = ⟨[wr1, wr2], 0⟩ := ⟨by kernel_rfl, by kernel_rfl⟩
theorem wl_p3 : (Lg.sync wl2 ⟨[wr1, wr2], 0⟩).1 = 0 ∧ (Lg.sync wl2 ⟨[wr1, wr2], 0⟩).2.2 = ⟨[wr1, wr2], 2⟩ := ⟨by kernel_rfl, by kernel_rfl⟩
theorem wl_p4 : (Lg.put wl3 0 ⟨[wr1, wr2], 2⟩ wr3).1 = 0 := by kernel_rfl
theorem wl_free : Lg.Free wl5 ∧ Lg.Free wl0 := ⟨⟨by kernel_rfl, by kernel_rfl⟩, ⟨by kernel_rfl, by kernel_rfl⟩⟩
theorem wl_bytes : (Dk.at' wl5.now 0).data.toList = Lg.bytesOf [wr1, wr2] ++ [] := by kernel_rfl
theorem wl_len : wl0.loose.length = 0 ∧ wl1.loose.length = 1 ∧ wl3.loose.length = 0 ∧ wl5.loose.length = 0 := ⟨by kernel_rfl, by kernel_rfl, by kernel_rfl, by kernel_rfl⟩
theorem wl_good : ∀ r ∈ [wr1, wr2], Lg.Good r := by decide

end Go.Proofs.Ytdkhidajmhmjpaa

/-
  The laws' 'works' walked.
-/
namespace Go.Proofs.Ytdkhidajmhmjpaa
open Go.RowKit
set_option maxRecDepth 20000

theorem lg_open0 {w0 w : World} {d : Nat} {D : Dk.St} (h : Live w0 w d D) (hF : Lg.Free D) (rs : List Lg.Rec) (t : List UInt8) (ht : (Dk.at' D.now 0).data.toList = Lg.bytesOf rs ++ t) (hp : Lg.parse (Dk.at' D.now 0) = rs) (hsz : (Dk.at' D.now 0).size ≤ 1000000) (hm : D.loose.length ≤ 1000000000) :
    Calls Try.prog 9 #[ptr d 0, .int .i64 0] w fun e w' => ∃ l, e = .returned (.tuple #[ptr l 0, .int .i64 0]) ∧ LgLive w0 w' l d 0 (Lg.opened D 0) ⟨rs, rs.length⟩ :=
  lg_open_at h hF 0 (by decide) rs t ht hp hsz hm

set_option maxHeartbeats 2000000 in
theorem lworks_any (w : World) : Calls Try.prog 7 #[] w fun e w' => e = .returned (.bool true) ∧ Below w.heap.size w w' := by
  have HLL := Lib.hid wl_len
  have HF := Lib.hid wl_free
  go_enter Try.func7, Try.ntmps7
  go_wp2_with fail
  refine (live_new 1000 w (by decide)).mono ?_
  rintro e w1 ⟨rfl, h⟩
  have H := Lib.hid (show Live w w1 w.heap.size wl0 from h)
  clear h
  unfold ptr
  go_wp2_with fail
  refine (lg_open0 H.out HF.out.2 [] [] (by kernel_rfl) (by kernel_rfl) (by decide) (by rw [HLL.out.1]; decide)).mono ?_
  rintro e w2 ⟨l, rfl, h⟩
  have H := Lib.hid (show LgLive w w2 l w.heap.size 0 wl0 ⟨[], 0⟩ from h)
  clear h
  unfold ptr
  go_wp2_with fail
  refine (lg_put H.out wr1 (by decide) (by rw [HLL.out.1]; decide) (by decide)).mono ?_
  rintro e w3 ⟨rfl, h⟩
  rw [wl_p1.1]
  rw [wl_p1.2] at h
  have H := Lib.hid (show LgLive w w3 l w.heap.size 0 wl1 ⟨[wr1], 0⟩ from h)
  clear h
  go_wp2_with fail
  refine (lg_put H.out wr2 (by decide) (by rw [HLL.out.2.1]; decide) (of_decide_eq_true (by kernel_rfl))).mono ?_
  rintro e w4 ⟨rfl, h⟩
  rw [wl_p2.1]
  rw [wl_p2.2] at h
  have H := Lib.hid (show LgLive w w4 l w.heap.size 0 wl2 ⟨[wr1, wr2], 0⟩ from h)
  clear h
  go_wp2_with fail
  refine (lg_sync H.out).mono ?_
  rintro e w5 ⟨rfl, h⟩
  rw [wl_p3.1]
  rw [wl_p3.2] at h
  have H := Lib.hid (show LgLive w w5 l w.heap.size 0 wl3 ⟨[wr1, wr2], 2⟩ from h)
  clear h
  go_wp2_with fail
  refine (lg_put H.out wr3 (by decide) (by rw [HLL.out.2.2.1]; decide) (of_decide_eq_true (by kernel_rfl))).mono ?_
  rintro e w6 ⟨rfl, h⟩
  rw [wl_p4]
  have H := Lib.hid (show Live w w6 w.heap.size wl4 from h.disk)
  clear h
  go_wp2_with fail
  refine (live_crash H.out _ _).mono ?_
  rintro e w7 ⟨rfl, h⟩
  have H := Lib.hid (show Live w w7 w.heap.size wl5 from h)
  clear h
  go_wp2_with fail
  refine (lg_open0 H.out HF.out.1 [wr1, wr2] [] wl_bytes (Lg.parse_whole _ wl_good _ (by rw [wl_bytes, List.append_nil])) (of_decide_eq_true (by kernel_rfl)) (by rw [HLL.out.2.2.2]; decide)).mono ?_
  rintro e w8 ⟨l2, rfl, h⟩
  have H := Lib.hid h
  clear h
  unfold ptr
  go_wp2_with fail
  refine (lg_at H.out 1).mono ?_
  rintro e w9 ⟨rfl, h, -⟩
  rw [show Lg.at' ⟨[wr1, wr2], [wr1, wr2].length⟩ 1 = (2, ⟨#[]⟩, 0) from rfl]
  have H := Lib.hid h
  clear h
  go_wp2_with fail
  refine (lg_len H.out).mono ?_
  rintro e w10 ⟨rfl, rfl⟩
  go_wp2_with fail
  go_ret
  exact ⟨rfl, H.out.bel⟩

end Go.Proofs.Ytdkhidajmhmjpaa
