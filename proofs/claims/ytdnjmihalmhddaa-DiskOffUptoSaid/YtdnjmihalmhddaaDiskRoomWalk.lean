/-
  The walk through the statement DiskRoom.
-/
import Derived.Test.YtdnjmihalmhddaaDiskMovesWalk
import Derived.Test.YtdnjmihalmhddaaArgs
import Derived.Test.YtdnjmihalmhddaaShelf
namespace Go.Proofs.Ytdnjmihalmhddaa
open Go.RowKit

def cat (ss : List ByteArray) : List UInt8 := ss.flatMap (fun s => s.data.toList)
theorem joinTail_nil (r : List (List UInt8)) : Lib.joinTail [] r = r.flatten := by
  unfold Lib.joinTail
  congr 1
  induction r with
  | nil => rfl
  | cons x r ih => simp
theorem join_empty (xs : List ByteArray) : Lib.join (xs.map (·.data.toList)) [] = cat xs := by
  cases xs with
  | nil => rfl
  | cons x r => simp only [List.map_cons, Lib.join_cons, joinTail_nil, cat, List.flatMap_def, List.flatten_cons]

/-- strings.Join without a separator. -/
theorem sjoin_any (v : Value) (ss : List ByteArray) (w : World) (hr : Reads w v ss.length (strV ss)) (hb : (cat ss).length ≤ 1048576) (hn : ss.length ≤ 1048576) :
    Calls Try.prog 29 #[v, .string ⟨#[]⟩] w fun e w' => ∃ s : ByteArray, e = .returned (.string s) ∧ s.data.toList = cat ss ∧ s.size = (cat ss).length ∧ Below w.heap.size w w' := by
  have he : (⟨#[]⟩ : ByteArray).data.toList = [] := rfl
  rcases hr with ⟨a, cap, rfl, h0, _⟩ | ⟨b, off, cap, rfl, hl, hm, hlt, hc⟩
  · have hx0 : ss = [] := List.eq_nil_of_length_eq_zero h0
    subst hx0
    exact (Try.strings_Join_none a cap ⟨#[]⟩ w).mono fun e w' ⟨h1, h2⟩ => ⟨_, h1, rfl, rfl, by rw [h2]; exact Below.refl _ _⟩
  · have hc' : ∀ (j : Nat) x, ss[j]? = some x → w.cell? ⟨b, off + j, none⟩ = some (.string x) := fun j x hj => hc j _ (by simp [strV, hj])
    refine (Try.strings_Join b off cap ss ⟨#[]⟩ w hc' hlt (by omega) hl (by rw [he, join_empty]; omega)).mono fun e w' ⟨h1, h2⟩ => ?_
    rw [he, join_empty] at h1
    exact ⟨_, h1, rfl, List.size_toArray, h2⟩

theorem strV_at {ss : List ByteArray} {k : Nat} {s : ByteArray} (h : ss[k]? = some s) : (strV ss)[k]? = some (.string s) := by simp [strV, h]

structure RoomAt (w wr : World) (d : Nat) (S : Dk.St) (k : Nat) : Prop where
  live : Live w wr d S
  off : S.off = false
  left : S.left = -1
  many : S.loose.length ≤ k

theorem room_yes {w wr : World} {d : Nat} {S : Dk.St} {k : Nat} {f : Int} {s : ByteArray} (h : RoomAt w wr d S k) (hk : k ≤ 300) (hf : 0 ≤ f ∧ f < 16) (hs : (s.size : Int) ≤ Dk.leftOf S) :
    Calls Try.prog 11 #[ptr d 0, .int .i64 f, .string s] wr fun e w' => e = .returned (.int .i64 0) ∧ ∃ S', RoomAt w w' d S' (k + 1) ∧ Dk.leftOf S' = Dk.leftOf S - (s.size : Int) := by
  have hm := h.many
  have e := Dk.append_yes (S := S) (f := f) (s := s) h.off hf hs (by rw [h.left]; decide)
  refine (live_append h.live f s (by omega)).mono fun _ _ ⟨h1, h2⟩ => ?_
  rw [e] at h1 h2
  refine ⟨h1, _, ⟨h2, h.off, by show Dk.less S.left = -1; rw [h.left]; rfl, by show (S.loose ++ [_]).length ≤ _; simp; omega⟩, ?_⟩
  show (S.room : Int) - (Dk.total ((Dk.Ch.app f.toNat s).run S.now) : Int) = (S.room : Int) - (Dk.total S.now : Int) - _
  rw [Dk.total_app _ _ _ (by rw [h.live.ok.nowL]; omega)]
  omega
theorem room_no {w wr : World} {d : Nat} {S : Dk.St} {k : Nat} {f : Int} {s : ByteArray} (h : RoomAt w wr d S k) (hk : k ≤ 300) (hf : 0 ≤ f ∧ f < 16) (hs : ¬ (s.size : Int) ≤ Dk.leftOf S) :
    Calls Try.prog 11 #[ptr d 0, .int .i64 f, .string s] wr fun e w' => e = .returned (.int .i64 7) ∧ RoomAt w w' d S (k + 1) := by
  have hm := h.many
  have e : Dk.append S f s = (7, S) := by
    unfold Dk.append
    rw [Dk.ready1 h.off hf, if_neg (by simp), if_pos (by omega)]
  refine (live_append h.live f s (by omega)).mono fun _ _ ⟨h1, h2⟩ => ?_
  rw [e] at h1 h2
  exact ⟨h1, h2, h.off, h.left, by omega⟩

theorem RoomAt.bounds {w wr : World} {d : Nat} {S : Dk.St} {k : Nat} (h : RoomAt w wr d S k) : 0 ≤ Dk.leftOf S ∧ Dk.leftOf S ≤ 4194304 := by
  have := h.live.ok.total
  have := h.live.ok.room
  unfold Dk.leftOf
  omega

set_option maxHeartbeats 4000000 in
theorem room_main (room : Nat) (v : Value) (ss : List ByteArray) (w : World) (hroom : 1 ≤ room ∧ room ≤ 4194304) (hr : Reads w v ss.length (strV ss)) (hb : (cat ss).length ≤ 1048576) (hn : ss.length ≤ 1048576) (h200 : ss.length ≤ 200) (hbig : (cat ss).length ≤ 262144) :
    Calls Try.prog 7 #[.int .i64 (room : Int), v] w fun e w' => e = .returned (.bool true) ∧ Below w.heap.size w w' := by
  have hd200 : decide ((200 : Int) < (ss.length : Int)) = false := by simp; omega
  have HR := Lib.hid hr
  have HB := Lib.hid hb
  obtain ⟨a, c, rfl⟩ := hr.shape
  have HN := Lib.hid hn
  have HRM := Lib.hid hroom
  clear hr hb hn hroom
  go_enter Try.func7, Try.ntmps7
  go_wp2_with fail
  refine (live_new room w HRM.out).mono ?_
  rintro e w1 ⟨rfl, h⟩
  have hL : Dk.leftOf (Dk.fresh room) = (room : Int) := by
    unfold Dk.leftOf
    show (room : Int) - (Dk.total Dk.none' : Int) = _
    rw [Dk.total_none]
    simp
  have HR1 := Lib.hid (HR.out.below h.bel)
  have HL := Lib.hid hL
  have H := Lib.hid h
  clear h hL
  unfold ptr
  go_wp2_with fail
  refine (sjoin_any _ ss _ HR1.out HB.out HN.out).mono ?_
  rintro e w2 ⟨s, rfl, hs1, hs2, hb2⟩
  have ht : decide ((262144 : Int) < s.size) = false := by simp; omega
  have HRA := Lib.hid (show RoomAt w w2 w.heap.size (Dk.fresh room) 0 from ⟨H.out.below hb2, rfl, rfl, Nat.le_refl _⟩)
  clear hs1 hs2 hb2
  go_wp2_with fail
  go_loopw [7, 33] (fun lv iv wr => ∃ (k : Nat) (S : Dk.St), k ≤ ss.length ∧ iv = .int .i64 (k : Int) ∧ lv = .int .i64 (Dk.leftOf S) ∧ Hid (RoomAt w wr w.heap.size S k)) (fun _ iv _ => ss.length - (intOf iv).toNat)
  case atStart => exact ⟨0, _, Nat.zero_le _, rfl, by rw [HL.out], HRA⟩
  case round =>
    obtain ⟨k, S, hk, rfl, rfl, HA⟩ := hrel
    have hbd := HA.out.bounds
    by_cases hlt : k < ss.length
    · obtain ⟨x, hx⟩ : ∃ x, ss[k]? = some x := ⟨ss[k], by simp [hlt]⟩
      obtain ⟨b, o, cp, hv, -, -, -, hcells⟩ := (HR.out.below HA.out.live.bel).some (by omega)
      simp only [Value.slice.injEq] at hv
      obtain ⟨rfl, -, rfl⟩ := hv
      have hcx := hcells k _ (strV_at hx)
      have hk0 : (0 : Int) ≤ (k : Int) := by omega
      have hk2 : (k : Int) ≤ 200 := by omega
      clear hcells hx
      obtain ⟨L, hL⟩ : ∃ L, Dk.leftOf S = L := ⟨_, rfl⟩
      have hadd := fun h1 => room_yes (s := x) (f := (k : Int) % 16) HA.out (by omega) (by omega) h1
      have hnot := fun h1 => room_no (s := x) (f := (k : Int) % 16) HA.out (by omega) (by omega) h1
      rw [hL] at hbd hadd hnot ⊢
      have HLL := Lib.hid hL
      by_cases hs : (x.size : Int) ≤ L
      · have hd : decide ((x.size : Int) ≤ L) = true := by simpa using hs
        have HADD := Lib.hid (hadd hs)
        clear hadd hnot hL
        go_wp2_with fail
        refine HADD.out.mono ?_
        rintro e w3 ⟨rfl, S', hA', hL'⟩
        have HA' := Lib.hid hA'
        have HL' := Lib.hid hL'
        clear hA' hL'
        go_wp2_with fail
        refine (live_left HA'.out.live).mono ?_
        rintro e w4 ⟨rfl, rfl⟩
        rw [HL'.out]
        go_wp2_with fail
        go_roundw
        case rel => exact ⟨k + 1, S', by omega, by go_num, by rw [HL'.out], HA'⟩
        case measure => simp [intOf]; omega
      · have hd : decide ((x.size : Int) ≤ L) = false := by simpa using hs
        have HNOT := Lib.hid (hnot hs)
        clear hadd hnot hL
        go_wp2_with fail
        refine HNOT.out.mono ?_
        rintro e w3 ⟨rfl, hA'⟩
        have HA' := Lib.hid hA'
        clear hA'
        go_wp2_with fail
        refine (live_left HA'.out.live).mono ?_
        rintro e w4 ⟨rfl, rfl⟩
        rw [HLL.out]
        go_wp2_with fail
        go_roundw
        case rel => exact ⟨k + 1, S, by omega, by go_num, by rw [HLL.out], HA'⟩
        case measure => simp [intOf]; omega
    · obtain rfl : k = ss.length := by omega
      go_wp2_with fail
      refine (works_any _).mono ?_
      rintro e w3 ⟨rfl, hb⟩
      go_wp2_with fail
      go_ret
      exact ⟨rfl, bel_trans HA.out.live.bel hb⟩

theorem diskRoom_walk (room : Int) (v : Value) (ss : List ByteArray) (w : World) (_hw : (Lit.int .i64 room).wf = true) (hr : Reads w v ss.length (strV ss)) (hb : (cat ss).length ≤ 1048576) (hn : ss.length ≤ 1048576) :
    Calls Try.prog 7 #[.int .i64 room, v] w fun e w' => e = .returned (.bool true) ∧ Below w.heap.size w w' := by
  by_cases hroom : 1 ≤ room ∧ room ≤ 4194304
  · obtain ⟨r, rfl⟩ : ∃ r : Nat, room = r := ⟨room.toNat, by omega⟩
    have hroom' : 1 ≤ r ∧ r ≤ 4194304 := by omega
    by_cases h200 : ss.length ≤ 200
    · by_cases hbig : (cat ss).length ≤ 262144
      · exact room_main r v ss w hroom' hr hb hn h200 hbig
      · have hd200 : decide ((200 : Int) < (ss.length : Int)) = false := by simp; omega
        have HR := Lib.hid hr
        obtain ⟨a, c, rfl⟩ := hr.shape
        have HRM := Lib.hid hroom'
        clear hr hroom hroom'
        go_enter Try.func7, Try.ntmps7
        go_wp2_with fail
        refine (live_new r w HRM.out).mono ?_
        rintro e w1 ⟨rfl, h⟩
        have H := Lib.hid h
        clear h
        unfold ptr
        go_wp2_with fail
        refine (sjoin_any _ ss _ (HR.out.below H.out.bel) hb hn).mono ?_
        rintro e w2 ⟨s, rfl, hs1, hs2, hb2⟩
        have ht : decide ((262144 : Int) < s.size) = true := by simp; omega
        have H := Lib.hid (H.out.below hb2)
        clear hs1 hs2 hb2 hbig
        go_wp2_with fail
        refine (works_any _).mono ?_
        rintro e w3 ⟨rfl, hb⟩
        go_wp2_with fail
        go_ret
        exact ⟨rfl, bel_trans H.out.bel hb⟩
    · have hd200 : decide ((200 : Int) < (ss.length : Int)) = true := by simp; omega
      obtain ⟨a, c, rfl⟩ := hr.shape
      have HRM := Lib.hid hroom'
      have hlen := hr.lenLe
      unfold maxLen at hlen
      clear hr hroom hroom'
      go_enter Try.func7, Try.ntmps7
      go_wp2_with fail
      refine (live_new r w HRM.out).mono ?_
      rintro e w1 ⟨rfl, h⟩
      have H := Lib.hid h
      clear h
      unfold ptr
      go_wp2_with fail
      refine (works_any _).mono ?_
      rintro e w3 ⟨rfl, hb⟩
      go_wp2_with fail
      go_ret
      exact ⟨rfl, bel_trans H.out.bel hb⟩
  · have HRM := Lib.hid hroom
    obtain ⟨a, c, rfl⟩ := hr.shape
    clear hr hroom
    go_enter Try.func7, Try.ntmps7
    go_wp2_with fail
    refine (new_bad room w HRM.out).mono ?_
    rintro e w1 ⟨rfl, rfl⟩
    go_wp2_with fail
    refine (works_any _).mono ?_
    rintro e w3 ⟨rfl, hb⟩
    go_wp2_with fail
    go_ret
    exact ⟨rfl, hb⟩

end Go.Proofs.Ytdnjmihalmhddaa
