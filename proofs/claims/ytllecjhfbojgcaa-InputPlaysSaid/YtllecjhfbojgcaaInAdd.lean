/-
  Add walked.
-/
import Derived.Test.YtllecjhfbojgcaaInAt
import Derived.Test.YtllecjhfbojgcaaBytesRef
namespace Go.Proofs.Ytllecjhfbojgcaa
open Go.RowKit
set_option maxRecDepth 20000

theorem inadd_nil (x : InR) (w : World) : Calls Try.prog 15 #[.pointer none, x.val'] w fun e w' => e = .returned (.int .i64 1) ∧ Below w.heap.size w w' := by
  unfold InR.val'
  go_enter Try.func15, Try.ntmps15
  go_wp2_with fail
  go_ret
  exact ⟨rfl, bel_alloc _ _⟩

set_option maxHeartbeats 4000000 in
theorem inadd_arg {w0 : Fr} {w : World} {n d l0 l1 : Nat} {lv : Value} {S : InSt} (h : InLive w0 w n d l0 l1 lv S) (x : InR) (hx : x.part < 0 ∨ 2 ≤ x.part) :
    Calls Try.prog 15 #[ptr n 0, x.val'] w fun e w' => e = .returned (.int .i64 (S.add x).1) ∧ InLive w0 w' n d l0 l1 lv (S.add x).2 := by
  have ha : S.add x = (2, S) := if_pos hx
  rw [ha]
  obtain ⟨p, k, v⟩ := x
  obtain ⟨W, hW⟩ : ∃ W, w.alloc (.cells #[.int .i64 p, .int .i64 k, .int .i64 v] 32) = W := ⟨_, rfl⟩
  have hb : Below w.heap.size w W := by rw [← hW]; exact bel_alloc _ _
  have b0 : W.cell? ⟨w.heap.size, 0, none⟩ = some (.int .i64 p) := by rw [← hW]; exact cells_at (heap_alloc_new w _) 0 _ rfl
  have HW := Lib.hid hW
  have HL := Lib.hid (h.below hb)
  clear h hW hb ha
  unfold ptr InR.val'
  show Calls _ _ #[_, .agg #[.int .i64 p, .int .i64 k, .int .i64 v]] _ _
  rcases hx with hx | hx
  · have hx : p < 0 := hx
    go_enter Try.func15, Try.ntmps15
    go_wp2_with fail
    rw [HW.out]
    go_wp2_with fail
    go_ret
    exact ⟨rfl, HL.out⟩
  · have hx : 2 ≤ p := hx
    have hx0 : ¬ p < 0 := by omega
    go_enter Try.func15, Try.ntmps15
    go_wp2_with fail
    rw [HW.out]
    go_wp2_with fail
    go_ret
    exact ⟨rfl, HL.out⟩

theorem infoIn : (Try.prog.info? 32).map (fun i => (i.zero, i.size, i.bytes)) = some (some (.agg #[.int .i64 0, .int .i64 0, .int .i64 0]), 3, 24) := by kernel_rfl

theorem InAt.below {w0 : Fr} {w w' : World} {n d l0 l1 : Nat} {lv : Value} {S : InSt} {F G0 G1 N : Nat → Prop} (h : InAt w0 w n d l0 l1 lv S F G0 G1 N) (hb : Below w.heap.size w w') : InAt w0 w' n d l0 l1 lv S F G0 G1 N :=
  ⟨h.old.below hb, h.disk.below hb, h.log0.below hb, h.log1.below hb, (hb.block n (h.lt n h.mem)).trans h.cell, h.row.kept (fun g hg => hb.block g (h.lt g (h.own g hg))), h.mem, h.own, fun k hk => Nat.lt_of_lt_of_le (h.lt k hk) hb.size, h.f0, h.f1, h.fn, h.g01, h.g0n, h.g1n, h.new⟩
theorem InAt.drew {w0 : Fr} {w : World} {n d l0 l1 : Nat} {lv : Value} {S : InSt} {F G0 G1 N : Nat → Prop} (h : InAt w0 w n d l0 l1 lv S F G0 G1 N) : InAt w0 w.drew n d l0 l1 lv S F G0 G1 N := h.below (bel_drew w)
theorem inat_put0 {w0 : Fr} {w : World} {n d l0 l1 : Nat} {lv : Value} {S : InSt} {F G0 G1 N : Nat → Prop} (h : InAt w0 w n d l0 l1 lv S F G0 G1 N) (r : Lg.Rec) (hs : r.text.size ≤ 140737488351232) (hm : S.D.loose.length ≤ 1000000000) (hbig : (Lg.bytesOf S.L0.rs).length ≤ 900000000) :
    Calls Try.prog 48 #[ptr l0 0, .int .u8 (r.kind.toNat : Int), .string r.text] w fun e w' => e = .returned (.int .i64 (S.put0 r).1) ∧ InLive w0 w' n d l0 l1 lv (S.put0 r).2 ∧ Only (fun k => F k ∨ G0 k) w w' := 
  (logput_any w l0 d 0 S.D S.L0 F G0 h.disk h.log0 h.f0 r hs hm hbig).mono fun _ _ ⟨h1, h2⟩ => ⟨h1, h.turn0 h2, by obtain ⟨F', G', ho, _⟩ := h2; exact ho⟩
theorem inat_put1 {w0 : Fr} {w : World} {n d l0 l1 : Nat} {lv : Value} {S : InSt} {F G0 G1 N : Nat → Prop} (h : InAt w0 w n d l0 l1 lv S F G0 G1 N) (r : Lg.Rec) (hs : r.text.size ≤ 140737488351232) (hm : S.D.loose.length ≤ 1000000000) (hbig : (Lg.bytesOf S.L1.rs).length ≤ 900000000) :
    Calls Try.prog 48 #[ptr l1 0, .int .u8 (r.kind.toNat : Int), .string r.text] w fun e w' => e = .returned (.int .i64 (S.put1 r).1) ∧ InLive w0 w' n d l0 l1 lv (S.put1 r).2 ∧ Only (fun k => F k ∨ G1 k) w w' := 
  (logput_any w l1 d 1 S.D S.L1 F G1 h.disk h.log1 h.f1 r hs hm hbig).mono fun _ _ ⟨h1, h2⟩ => ⟨h1, h.turn1 h2, by obtain ⟨F', G', ho, _⟩ := h2; exact ho⟩

end Go.Proofs.Ytllecjhfbojgcaa
