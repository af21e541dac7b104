/-
  The walks through the statements DiskMoves and DiskKnown.
-/
import Derived.Test.YtdnjmihalmhddaaDiskLive
namespace Go.Proofs.Ytdnjmihalmhddaa
open Go.RowKit

namespace Dk
theorem ready1 {S : St} {f : Int} (ho : S.off = false) (hf : 0 ≤ f ∧ f < 16) : ready S [f] = 0 := by
  unfold ready
  rw [ho]
  simp only [Bool.false_eq_true, if_false]
  exact argE_ok (by simp [isF, hf.1, hf.2])
theorem ready2 {S : St} {a b : Int} (ho : S.off = false) (ha : 0 ≤ a ∧ a < 16) (hb : 0 ≤ b ∧ b < 16) : ready S [a, b] = 0 := by
  unfold ready
  rw [ho]
  simp only [Bool.false_eq_true, if_false]
  exact argE_ok (by simp [isF, ha.1, ha.2, hb.1, hb.2])
def put (S : St) (c : Ch) : St := { S with now := c.run S.now, loose := S.loose ++ [c], left := less S.left }
theorem change_yes {S : St} (c : Ch) (hl : S.left ≠ 0) : change S c = (0, put S c) := if_neg hl
theorem append_yes {S : St} {f : Int} {s : ByteArray} (ho : S.off = false) (hf : 0 ≤ f ∧ f < 16) (hr : (s.size : Int) ≤ leftOf S) (hl : S.left ≠ 0) : append S f s = (0, put S (.app f.toNat s)) := by
  unfold append
  rw [ready1 ho hf, if_neg (by simp), if_neg (by omega), change_yes _ hl]
theorem cut_yes {S : St} {f n : Int} (ho : S.off = false) (hf : 0 ≤ f ∧ f < 16) (hn : 0 ≤ n ∧ n ≤ ((at' S.now f.toNat).size : Int)) (hl : S.left ≠ 0) : cut S f n = (0, put S (.cut f.toNat n.toNat)) := by
  unfold cut
  rw [ready1 ho hf, if_neg (by simp), if_neg (by omega), change_yes _ hl]
theorem move_yes {S : St} {a b : Int} (ho : S.off = false) (ha : 0 ≤ a ∧ a < 16) (hb : 0 ≤ b ∧ b < 16) (hab : a ≠ b) (hl : S.left ≠ 0) : move S a b = (0, put S (.mov a.toNat b.toNat)) := by
  unfold move
  rw [ready2 ho ha hb, if_neg (by simp), if_neg hab, change_yes _ hl]
theorem read_yes {S : St} {f : Int} (ho : S.off = false) (hf : 0 ≤ f ∧ f < 16) : read S f = (at' S.now f.toNat, 0) := by
  unfold read
  rw [ready1 ho hf, if_neg (by simp)]

def mv1 (a : ByteArray) : St := put (fresh 4194304) (.app 1 a)
def mv2 (a b : ByteArray) : St := put (mv1 a) (.app 2 b)
def mv3 (a b : ByteArray) : St := put (mv2 a b) (.mov 1 2)
def mv4 (a b : ByteArray) : St := put (mv3 a b) (.mov 2 1)
theorem mv_facts (a b : ByteArray) (h : a.size + b.size ≤ 10000) :
    append (fresh 4194304) 1 a = (0, mv1 a) ∧ append (mv1 a) 2 b = (0, mv2 a b) ∧ move (mv2 a b) 1 2 = (0, mv3 a b) ∧ move (mv3 a b) 2 1 = (0, mv4 a b) ∧ read (mv4 a b) 1 = (a, 0) ∧ read (mv4 a b) 2 = (ByteArray.empty, 0) ∧ leftOf (mv4 a b) = 4194304 - (a.size : Int) ∧ (move (mv4 a b) 1 1).1 = 2 := by
  have e1 : (mv1 a).now = [ByteArray.empty, ByteArray.empty ++ a, ByteArray.empty, ByteArray.empty, ByteArray.empty, ByteArray.empty, ByteArray.empty, ByteArray.empty, ByteArray.empty, ByteArray.empty, ByteArray.empty, ByteArray.empty, ByteArray.empty, ByteArray.empty, ByteArray.empty, ByteArray.empty] := rfl
  have e4 : (mv4 a b).now = [ByteArray.empty, ByteArray.empty ++ a, ByteArray.empty, ByteArray.empty, ByteArray.empty, ByteArray.empty, ByteArray.empty, ByteArray.empty, ByteArray.empty, ByteArray.empty, ByteArray.empty, ByteArray.empty, ByteArray.empty, ByteArray.empty, ByteArray.empty, ByteArray.empty] := rfl
  have l0 : leftOf (fresh 4194304) = 4194304 := by decide
  have l1 : leftOf (mv1 a) = 4194304 - (a.size : Int) := by
    unfold leftOf
    rw [e1]
    simp [total, mv1, put, fresh]
  have l4 : leftOf (mv4 a b) = 4194304 - (a.size : Int) := by
    unfold leftOf
    rw [e4]
    simp [total, mv4, mv3, mv2, mv1, put, fresh]
  refine ⟨append_yes rfl (by decide) (by rw [l0]; omega) (by decide), append_yes rfl (by decide) (by rw [l1]; omega) (by show less (-1) ≠ 0; decide), move_yes rfl (by decide) (by decide) (by decide) (by show less (less (-1)) ≠ 0; decide), move_yes rfl (by decide) (by decide) (by decide) (by show less (less (less (-1))) ≠ 0; decide), ?_, ?_, l4, ?_⟩
  · rw [read_yes rfl (by decide), e4]
    simp [at']
  · rw [read_yes rfl (by decide), e4]
    simp [at']
  · unfold move
    rw [ready2 rfl (by decide) (by decide)]
    rfl
end Dk

set_option maxHeartbeats 4000000 in
theorem diskMoves_walk (a b : ByteArray) (ha : a.size ≤ 140737488351232) (hb : b.size ≤ 140737488351232) (w : World) :
    Calls Try.prog 3 #[.string a, .string b] w fun e w' => e = .returned (.bool true) ∧ Below w.heap.size w w' := by
  by_cases h : 10000 < a.size + b.size
  · have hd : decide ((10000 : Int) < (a.size : Int) + (b.size : Int)) = true := by simp; omega
    have hd2 : (10000 : Int) < (a.size : Int) + (b.size : Int) := by omega
    go_enter Try.func3, Try.ntmps3
    go_wp2_with fail
    refine (works_any _).mono ?_
    rintro e w1 ⟨rfl, hb⟩
    go_wp2_with fail
    go_ret
    exact ⟨rfl, hb⟩
  · have hd : decide ((10000 : Int) < (a.size : Int) + (b.size : Int)) = false := by simp; omega
    have hd2 : ¬ (10000 : Int) < (a.size : Int) + (b.size : Int) := by omega
    obtain ⟨m1, m2, m3, m4, m5, m6, m7, m8⟩ := Dk.mv_facts a b (by omega)
    have hle : a.size ≤ 10000 := by omega
    have M1 := Lib.hid m1
    have M2 := Lib.hid m2
    have M3 := Lib.hid m3
    have M4 := Lib.hid m4
    have M5 := Lib.hid m5
    have M6 := Lib.hid m6
    have M7 := Lib.hid m7
    have M8 := Lib.hid m8
    clear m1 m2 m3 m4 m5 m6 m7 m8 h
    go_enter Try.func3, Try.ntmps3
    go_wp2_with fail
    refine (live_new 4194304 w (by decide)).mono ?_
    rintro e w1 ⟨rfl, h⟩
    have H := Lib.hid h
    clear h
    unfold ptr
    go_wp2_with fail
    refine (live_append H.out _ _ (show 0 ≤ 1000000000 by decide)).mono ?_
    rintro e w2 ⟨rfl, h⟩
    rw [M1.out] at h ⊢
    have H := Lib.hid h
    clear h
    go_wp2_with fail
    refine (live_append H.out _ _ (show 1 ≤ 1000000000 by decide)).mono ?_
    rintro e w2 ⟨rfl, h⟩
    rw [M2.out] at h ⊢
    have H := Lib.hid h
    clear h
    go_wp2_with fail
    refine (live_move H.out _ _ (show 2 ≤ 1000000000 by decide)).mono ?_
    rintro e w2 ⟨rfl, h⟩
    rw [M3.out] at h ⊢
    have H := Lib.hid h
    clear h
    go_wp2_with fail
    refine (live_move H.out _ _ (show 3 ≤ 1000000000 by decide)).mono ?_
    rintro e w2 ⟨rfl, h⟩
    rw [M4.out] at h ⊢
    have H := Lib.hid h
    clear h
    go_wp2_with fail
    refine (live_read H.out _).mono ?_
    rintro e w2 ⟨rfl, h⟩
    rw [M5.out]
    have H := Lib.hid h
    clear h
    go_wp2_with fail
    refine (live_read H.out _).mono ?_
    rintro e w2 ⟨rfl, h⟩
    rw [M6.out]
    have H := Lib.hid h
    clear h
    go_wp2_with fail
    refine (live_left H.out).mono ?_
    rintro e w2 ⟨rfl, rfl⟩
    rw [M7.out]
    go_wp2_with fail
    refine (live_move H.out _ _ (show 4 ≤ 1000000000 by decide)).mono ?_
    rintro e w3 ⟨rfl, h⟩
    rw [M8.out]
    have H := Lib.hid h
    clear h
    go_wp2_with fail
    refine (works_any _).mono ?_
    rintro e w4 ⟨rfl, hb⟩
    go_wp2_with fail
    go_ret
    exact ⟨rfl, bel_trans H.out.bel hb⟩

end Go.Proofs.Ytdnjmihalmhddaa
