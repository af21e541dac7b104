/-
  The walk through names.Turned.
-/
import Derived.Test.YtpmelloanohlkaaNamesEq
import Derived.Laws.Runes
import Derived.Laws.Cover4
namespace Go.Proofs.Ytpmelloanohlkaa
open Go.RowKit

namespace Cl
def turn (l : List (Nat × Nat)) : ByteArray := l.foldl (fun t x => Utf8.encode x.2 ++ t) ⟨#[]⟩
def turned (s : ByteArray) : ByteArray := if name (turn (runes s)) = true then turn (runes s) else s
theorem turn_snoc (l : List (Nat × Nat)) (x : Nat × Nat) : turn (l ++ [x]) = Utf8.encode x.2 ++ turn l := by simp [turn]
theorem turn_le_any (l : List (Nat × Nat)) (t : ByteArray) : (l.foldl (fun t x => Utf8.encode x.2 ++ t) t).size ≤ t.size + 4 * l.length := by
  induction l generalizing t with
  | nil => simp
  | cons x l ih =>
    have h1 := ih (Utf8.encode x.2 ++ t)
    have h2 := encode_size_le x.2
    rw [ByteArray.size_append] at h1
    simp only [List.foldl_cons, List.length_cons]
    omega
theorem turn_le (l : List (Nat × Nat)) : (turn l).size ≤ 4 * l.length := by
  have := turn_le_any l ⟨#[]⟩
  rw [show (⟨#[]⟩ : ByteArray).size = 0 from rfl, Nat.zero_add] at this
  exact this
end Cl

theorem turned_no (s : ByteArray) (w : World) (hs : s.size ≤ 140737488351232) (h : Cl.name s = false) :
    Calls Try.prog 15 #[.string s] w fun e w' => e = .returned (.tuple #[.string ⟨#[]⟩, .int .i64 2]) ∧ Below w.heap.size w w' := by
  go_enter Try.func15, Try.ntmps15
  go_wp2_with fail
  refine (name_is s false _ hs h).mono ?_
  rintro e w1 ⟨rfl, hb1⟩
  go_wp2_with fail
  go_ret2
  exact ⟨rfl, hb1⟩

set_option maxHeartbeats 1000000 in
theorem turned_ok (s : ByteArray) (w : World) (hs : s.size ≤ 140737488351232) (h : Cl.name s = true) :
    Calls Try.prog 15 #[.string s] w fun e w' => e = .returned (.tuple #[.string (Cl.turned s), .int .i64 0]) ∧ Below w.heap.size w w' := by
  have hr24 : (Cl.runes s).length ≤ 24 := by
    rw [Cl.name_eq] at h
    simp at h
    omega
  have HR := Lib.hid hr24
  clear hr24
  go_enter Try.func15, Try.ntmps15
  go_wp2_with fail
  refine (name_is s true _ hs h).mono ?_
  rintro e w1 ⟨rfl, hb1⟩
  clear h
  go_wp2_with fail
  go_loopw [4] (fun t wr => ∃ (pre : List (Nat × Nat)) (pos : Nat) (tb : ByteArray), t = .string tb ∧ tb.size ≤ 96 ∧ wr.heap[w1.heap.size]? = some (.stringIter s pos) ∧ Below w1.heap.size w1 wr ∧ Hid (Cl.At s pre pos) ∧ Hid (tb = Cl.turn pre)) (fun _ wr => s.size - wr.iterPos w1.heap.size)
  case atStart =>
    refine ⟨[], 0, ⟨#[]⟩, rfl, by decide, ?_, (Below.refl _ w1).alloc (Nat.le_refl _) _, Lib.hid (Cl.At.start s), Lib.hid rfl⟩
    have := World.iter_heap w1 s 0
    simpa using this
  case round =>
    obtain ⟨pre, pos, tb, rfl, htb, hit, hbw, HA, HT⟩ := hrel
    by_cases hp : pos < s.size
    · have hnx := rune_next wr w1.heap.size s pos hit hp
      have hwd := Cl.width_pos s pos hp
      have hit2 := Lib.iterAt_heap wr w1.heap.size s pos (pos + (Utf8.decode s pos).2) hit
      have hbw2 := Lib.below_iterAt hbw (k := w1.heap.size) (Nat.le_refl _) s (pos + (Utf8.decode s pos).2)
      have hpos : wr.iterPos w1.heap.size = pos := by simp only [World.iterPos, hit]
      obtain ⟨wi, hwi⟩ : ∃ wi, wr.iterAt w1.heap.size s (pos + (Utf8.decode s pos).2) = wi := ⟨_, rfl⟩
      rw [hwi] at hnx hit2 hbw2
      have he4 := encode_size_le ((Utf8.decode s pos).1 : Int)
      have hnext : (Utf8.encode (Utf8.decode s pos).1 ++ tb).size ≤ 96 := by
        obtain ⟨rest, hr⟩ := HA.out.here hp
        have h1 := HR.out
        rw [hr] at h1
        simp only [List.length_append, List.length_cons] at h1
        have h2 := Cl.turn_le pre
        rw [← HT.out] at h2
        rw [ByteArray.size_append]
        omega
      have HNX := Lib.hid hnext
      clear hnext hwi hit hbw
      go_wp2_with fail
      go_roundw
      case rel => exact ⟨pre ++ [(pos, (Utf8.decode s pos).1)], _, _, rfl, HNX.out, hit2, hbw2, Lib.hid (HA.out.next hp), Lib.hid (by rw [Cl.turn_snoc, HT.out])⟩
      case measure =>
        rw [hpos]
        simp only [World.iterPos, hit2]
        omega
    · have hnx := rune_end wr w1.heap.size s pos hit hp
      have hd := HA.out.done hp
      have HT2 := Lib.hid (show tb = Cl.turn (Cl.runes s) by rw [← hd]; exact HT.out)
      clear hd
      cases hn : Cl.name tb with
      | true =>
        go_wp2_with fail
        refine (name_is tb true _ (by omega) hn).mono ?_
        rintro e w2 ⟨rfl, hb2⟩
        go_wp2_with fail
        go_ret2
        refine ⟨?_, bel_trans hb1 (bel_trans hbw hb2)⟩
        unfold Cl.turned
        rw [← HT2.out, if_pos hn]
        rfl
      | false =>
        go_wp2_with fail
        refine (name_is tb false _ (by omega) hn).mono ?_
        rintro e w2 ⟨rfl, hb2⟩
        go_wp2_with fail
        go_ret2
        refine ⟨?_, bel_trans hb1 (bel_trans hbw hb2)⟩
        unfold Cl.turned
        rw [← HT2.out, if_neg (by rw [hn]; simp)]
        rfl

end Go.Proofs.Ytpmelloanohlkaa
