/-
  The walk through LogSure.
-/
import Derived.Test.YtdkhidajmhmjpaaLogWorks
import Derived.Test.YtdkhidajmhmjpaaLogBytes
import Derived.Test.YtdkhidajmhmjpaaLogLive
import Derived.Test.YtdkhidajmhmjpaaArgsRec
namespace Go.Proofs.Ytdkhidajmhmjpaa
open Go.RowKit
set_option maxRecDepth 20000

theorem lg_open9 {w0 w : World} {d : Nat} (h : Live w0 w d (Dk.fresh 4194304)) :
    Calls Try.prog 9 #[ptr d 0, .int .i64 9] w fun e w' => ∃ l, e = .returned (.tuple #[ptr l 0, .int .i64 0]) ∧ LgLive w0 w' l d 9 (Dk.fresh 4194304) ⟨[], 0⟩ :=
  lg_open_at (D := Dk.fresh 4194304) h ⟨rfl, rfl⟩ 9 (by decide) [] [] (by kernel_rfl) (by kernel_rfl) (by decide) (by decide)

theorem lrec_kind {k : Int} (h : (Lit.int .u8 k).wf = true) : ((UInt8.ofNat k.toNat).toNat : Int) = k := by
  have := bounds_u8 h
  simp
  omega

set_option maxHeartbeats 8000000 in
theorem logSure_walk (v : Value) (l : List LRec) (p : Int) (w : World) (hr : Reads w v l.length (lrecCells l)) (hi : ∀ r ∈ l, (Lit.int .u8 r.kind).wf = true ∧ r.text.size ≤ maxLen ∧ (Lit.int .i64 r.cut).wf = true) (hp : (Lit.int .i64 p).wf = true) :
    Calls Try.prog 3 #[v, .int .i64 p] w fun e w' => e = .returned (.bool true) ∧ Below w.heap.size w w' := by
  have hlen := hr.lenLe
  unfold maxLen at hlen
  have hp2 := (bounds_i64 hp).2
  have HR := Lib.hid hr
  have HI := Lib.hid hi
  obtain ⟨a, c, rfl⟩ := hr.shape
  clear hr hi hp
  by_cases hbig : 100 < l.length
  · have hb1 : (100 : Int) < (l.length : Int) := by omega
    go_enter Try.func3, Try.ntmps3
    go_wp2_with fail
    refine (lworks_any _).mono ?_
    rintro e w1 ⟨rfl, hb⟩
    go_wp2_with fail
    go_ret
    exact ⟨rfl, hb⟩
  · have hb1 : ¬ (100 : Int) < (l.length : Int) := by omega
    obtain ⟨m, hm⟩ : ∃ m, l.length = m := ⟨_, rfl⟩
    have HM := Lib.hid hm
    rw [hm] at hb1 hlen hbig
    rw [hm]
    go_enter Try.func3, Try.ntmps3
    go_wp2_with fail
    refine (live_new 4194304 w (by decide)).mono ?_
    rintro e w1 ⟨rfl, h⟩
    have H := Lib.hid (show Live w w1 w.heap.size (Dk.fresh 4194304) from h)
    clear h
    unfold ptr
    go_wp2_with fail
    refine (lg_open9 H.out).mono ?_
    rintro e w2 ⟨n, rfl, h⟩
    have HN := Lib.hid h
    clear h
    unfold ptr
    go_wp2_with fail
    refine (lg_power HN.out p (by omega)).mono ?_
    rintro e w3 ⟨rfl, h⟩
    have HP := Lib.hid h
    clear h
    have hf0 : Lg.Fit 0 (Dk.power (Dk.fresh 4194304) p).2 ⟨[], 0⟩ := by
      refine ⟨?_, by decide⟩
      unfold Dk.power
      split
      · simp [Dk.fresh]
      · split
        · simp [Dk.fresh]
        · simp [Dk.fresh]
    have HF0 := Lib.hid hf0
    clear hf0
    go_wp2_with fail
    go_loopw [32] (fun i wr => ∃ (j : Nat) (D : Dk.St) (L : Lg.St), j ≤ m ∧ i = .int .i64 (j : Int) ∧ Hid (LgLive w wr n w.heap.size 9 D L) ∧ Hid (Lg.Fit j D L)) (fun i _ => m - (intOf i).toNat)
    case atStart => exact ⟨0, _, _, Nat.zero_le _, rfl, HP, HF0⟩
    case round =>
      obtain ⟨j, D, L, hj, rfl, HS, HF⟩ := hrel
      by_cases hlt : j < m
      · obtain ⟨x, hx⟩ : ∃ x, l[j]? = some x := ⟨l[j]'(by rw [HM.out]; omega), by simp⟩
        have hrr := HR.out
        obtain ⟨b, o, rfl, hblt, r0, r1, r2, r3⟩ := reads4r hrr j x hx
        have hbl := HS.out.bel
        have r0 := (World.cell?_of_block (hbl.block b hblt)).trans r0
        have r1 := (World.cell?_of_block (hbl.block b hblt)).trans r1
        have r2 := (World.cell?_of_block (hbl.block b hblt)).trans r2
        have r3 := (World.cell?_of_block (hbl.block b hblt)).trans r3
        have hjk : (j : Int) < (m : Int) := by omega
        obtain ⟨i1, i2, -⟩ := HI.out x (List.mem_of_getElem? hx)
        have hk := lrec_kind i1
        unfold maxLen at i2
        clear hbl hx hrr
        obtain ⟨k, t, s, ct⟩ := x
        simp only at r0 r1 r2 r3 i1 i2 hk
        have HS1 := Lib.hid (HS.out.below (bel_alloc wr (.cells #[.int .u8 k, .string t, .bool s, .int .i64 ct] 33)))
        by_cases hts : 1000 < t.size
        · have hts2 : (1000 : Int) < (t.size : Int) := by omega
          go_wp2_with fail
          refine (lworks_any _).mono ?_
          rintro e w5 ⟨rfl, hb⟩
          have H := Lib.hid (HS1.out.below hb)
          clear hb
          go_wp2_with fail
          go_ret
          exact ⟨rfl, H.out.bel⟩
        · have hts2 : ¬ (1000 : Int) < (t.size : Int) := by omega
          go_wp2_with fail
          have HK1 := Lib.hid ((HS.out.keep.grow (bel_alloc wr (.cells #[.int .u8 k, .string t, .bool s, .int .i64 ct] 33))).less (K' := fun k => k = wr.heap.size) (fun k e => .inr ⟨by omega, by rw [e]; simp⟩))
          refine (lg_sure HS1.out).mono ?_
          rintro e w4 ⟨rfl, rfl⟩
          obtain ⟨V, hV⟩ : ∃ V, wr.alloc (.cells #[.int .u8 k, .string t, .bool s, .int .i64 ct] 33) = V := ⟨_, rfl⟩
          have hxn := heap_alloc_new wr (.cells #[.int .u8 k, .string t, .bool s, .int .i64 ct] 33)
          obtain ⟨g, hg⟩ : ∃ g, wr.heap.size = g := ⟨_, rfl⟩
          rw [hV] at HS1 HK1 hxn ⊢
          rw [hg] at HK1 hxn ⊢
          clear hV hg
          have s0 := cells_at hxn 0 _ rfl
          have s1 := cells_at hxn 1 _ rfl
          simp only [List.getElem_toArray, List.getElem_cons_zero, List.getElem_cons_succ] at s0 s1
          have HXN := Lib.hid hxn
          clear hxn
          go_wp2_with fail
          have hput := lgk_put HK1.out (⟨UInt8.ofNat k.toNat, t⟩ : Lg.Rec) (by show t.size ≤ _; omega) (by have := HF.out.loose; omega) (by have := HF.out.bytes; omega)
          rw [hk] at hput
          refine hput.mono ?_
          clear hput
          rintro e w5 ⟨rfl, h5, hk5⟩
          have hx5 := (hk5 g rfl).trans HXN.out
          have s2 := cells_at hx5 2 _ rfl
          have hsu := Lg.put_sure D 9 L ⟨UInt8.ofNat k.toNat, t⟩
          have hf5 := HF.out.put 9 ⟨UInt8.ofNat k.toNat, t⟩ (by show t.size ≤ _; omega)
          obtain ⟨e5, D5, L5, hR⟩ : ∃ e D' L', Lg.put D 9 L ⟨UInt8.ofNat k.toNat, t⟩ = (e, D', L') := ⟨_, _, _, rfl⟩
          rw [hR] at h5 hsu hf5 ⊢
          simp only [List.getElem_toArray, List.getElem_cons_zero, List.getElem_cons_succ] at s2
          have HK5 := Lib.hid h5.live
          have HF5 := Lib.hid hf5
          have hsu : L5.sure = L.sure := hsu
          rw [← hsu]
          clear h5 hf5 hR hx5 hk5 hsu s0 s1
          have hsl := HK5.out.sure
          have hne : ((L5.sure : Int) != (L5.sure : Int)) = false := by simp
          have hgt : decide ((L5.rs.length : Int) < (L5.sure : Int)) = false := by simp; omega
          go_wp2_with fail
          refine (lg_sure HK5.out).mono ?_
          rintro e w6 ⟨rfl, rfl⟩
          go_wp2_with fail
          refine (lg_sure HK5.out).mono ?_
          rintro e w6 ⟨rfl, rfl⟩
          go_wp2_with fail
          refine (lg_len HK5.out).mono ?_
          rintro e w6 ⟨rfl, rfl⟩
          cases s with
          | false =>
            go_wp2_with fail
            go_roundw
            case rel => exact ⟨j + 1, D5, L5, by omega, by go_num, HK5, HF5⟩
            case measure => simp [intOf]; omega
          | true =>
            go_wp2_with fail
            refine (lg_sync HK5.out).mono ?_
            rintro e w6 ⟨rfl, h6⟩
            have hiff := Lg.sync_iff D5 L5
            have hf6 := HF5.out.sync
            obtain ⟨e6, D6, L6, hR⟩ : ∃ e D' L', Lg.sync D5 L5 = (e, D', L') := ⟨_, _, _, rfl⟩
            rw [hR] at h6 hiff hf6 ⊢
            have hiff : (e6 == 0) = (L6.sure == L6.rs.length) := hiff
            have hiff2 : ((L6.sure : Int) == (L6.rs.length : Int)) = (e6 == 0) := by
              rw [hiff, Bool.eq_iff_iff]
              simp
              omega
            have HK6 := Lib.hid h6
            have HF6 := Lib.hid hf6
            have HI6 := Lib.hid hiff2
            clear h6 hf6 hR hiff hiff2
            go_wp2_with fail
            refine (lg_sure HK6.out).mono ?_
            rintro e w7 ⟨rfl, rfl⟩
            go_wp2_with fail
            refine (lg_len HK6.out).mono ?_
            rintro e w7 ⟨rfl, rfl⟩
            have hiff2 := HI6.out
            go_wp2_with fail
            go_roundw
            case rel => exact ⟨j + 1, D6, L6, by omega, by go_num, HK6, HF6⟩
            case measure => simp [intOf]; omega
      · have hje : j = m := by omega
        subst hje
        have hjj : ¬ (j : Int) < (j : Int) := by omega
        clear hlt
        go_wp2_with fail
        refine (lworks_any _).mono ?_
        rintro e w5 ⟨rfl, hb⟩
        have H := Lib.hid (HS.out.below hb)
        clear hb
        go_wp2_with fail
        go_ret
        exact ⟨rfl, H.out.bel⟩

end Go.Proofs.Ytdkhidajmhmjpaa
