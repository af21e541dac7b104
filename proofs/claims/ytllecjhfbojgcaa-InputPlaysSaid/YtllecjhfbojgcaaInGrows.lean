/-
  What one Add adds, in plain numbers; Add whatever the part.
-/
import Derived.Test.YtllecjhfbojgcaaInAdd0
import Derived.Test.YtllecjhfbojgcaaInCuts
namespace Go.Proofs.Ytllecjhfbojgcaa
open Go.RowKit
set_option maxRecDepth 20000

theorem append_loose (D : Dk.St) (f : Int) (s : ByteArray) : (Dk.append D f s).2.loose.length ≤ D.loose.length + 1 := by
  unfold Dk.append Dk.change
  split
  · simp
  · split
    · simp
    · split <;> simp
theorem sync_loose (D : Dk.St) : (Dk.sync D).2.loose.length ≤ D.loose.length := by
  unfold Dk.sync
  split
  · simp
  · split <;> simp
theorem lput_loose (D : Dk.St) (f : Int) (L : Lg.St) (r : Lg.Rec) : (Lg.put D f L r).2.1.loose.length ≤ D.loose.length + 1 := by
  unfold Lg.put
  split
  · simp
  · split
    · exact append_loose D f _
    · exact append_loose D f _
theorem lsync_loose (D : Dk.St) (L : Lg.St) : (Lg.sync D L).2.1.loose.length ≤ D.loose.length := by
  unfold Lg.sync
  split
  · simp
  · split
    · exact sync_loose D
    · exact sync_loose D
theorem lsync_rs (D : Dk.St) (L : Lg.St) : (Lg.sync D L).2.2.rs = L.rs := by
  unfold Lg.sync
  split
  · rfl
  · split <;> rfl
/-- What a frame is at most. -/
@[irreducible] def inC : Nat := 65600
theorem lput_bytes (D : Dk.St) (f : Int) (L : Lg.St) (r : Lg.Rec) (hr : r.text.size ≤ 65536) : (Lg.bytesOf (Lg.put D f L r).2.2.rs).length ≤ (Lg.bytesOf L.rs).length + inC := by
  obtain ⟨-, h2⟩ := frame_size r hr
  have hc : inC = 65600 := by unfold inC; rfl
  unfold Lg.put
  split
  · simp
  · split
    · simp
    · simp only [Lg.bytes_snoc, List.length_append]
      omega

theorem ent_size (S : InSt) (x : InR) : (S.ent x).text.size ≤ 30 := by
  have h := Cl.put_len [(S.rs.length : Int), x.key, x.val]
  have e : (S.ent x).text.size = (Cl.put [(S.rs.length : Int), x.key, x.val]).length := by unfold InSt.ent; exact List.size_toArray
  rw [e]
  exact h

structure InFit (j : Nat) (S : InSt) : Prop where
  n : S.rs.length ≤ j
  m : S.D.loose.length ≤ j
  b0 : (Lg.bytesOf S.L0.rs).length ≤ j * inC
  b1 : (Lg.bytesOf S.L1.rs).length ≤ j * inC
  p : ∀ x ∈ S.rs, x.part = 0 ∨ x.part = 1

theorem InFit.add {j : Nat} {S : InSt} (h : InFit j S) (x : InR) : InFit (j + 1) (S.add x).2 := by
  have hn := h.n
  have hm := h.m
  have h0 := h.b0
  have h1 := h.b1
  have he := ent_size S x
  have hc := Nat.succ_mul j inC
  rw [Nat.succ_eq_add_one] at hc
  have same : InFit (j + 1) S := ⟨by omega, by omega, by omega, by omega, h.p⟩
  unfold InSt.add
  split
  · exact same
  · rename_i hx
    have hx2 : x.part = 0 ∨ x.part = 1 := by omega
    split
    · exact same
    · split
      · have q1 := lput_loose S.D 0 S.L0 (S.ent x)
        have q2 := lput_bytes S.D 0 S.L0 (S.ent x) (by omega)
        split
        · exact ⟨show S.rs.length ≤ _ by omega, show (Lg.put S.D 0 S.L0 (S.ent x)).2.1.loose.length ≤ _ by omega, show (Lg.bytesOf (Lg.put S.D 0 S.L0 (S.ent x)).2.2.rs).length ≤ _ by omega, show (Lg.bytesOf S.L1.rs).length ≤ _ by omega, h.p⟩
        · have q3 := lsync_loose (Lg.put S.D 0 S.L0 (S.ent x)).2.1 (Lg.put S.D 0 S.L0 (S.ent x)).2.2
          have q4 := lsync_rs (Lg.put S.D 0 S.L0 (S.ent x)).2.1 (Lg.put S.D 0 S.L0 (S.ent x)).2.2
          refine ⟨show (S.rs ++ [x]).length ≤ _ by simp; omega, show (Lg.sync (Lg.put S.D 0 S.L0 (S.ent x)).2.1 (Lg.put S.D 0 S.L0 (S.ent x)).2.2).2.1.loose.length ≤ _ by omega, show (Lg.bytesOf (Lg.sync (Lg.put S.D 0 S.L0 (S.ent x)).2.1 (Lg.put S.D 0 S.L0 (S.ent x)).2.2).2.2.rs).length ≤ _ by rw [q4]; omega, show (Lg.bytesOf S.L1.rs).length ≤ _ by omega, fun y hy => ?_⟩
          have hy : y ∈ S.rs ++ [x] := hy
          rcases List.mem_append.1 hy with hy | hy
          · exact h.p y hy
          · rw [List.mem_singleton.1 hy]; exact hx2
      · have q1 := lput_loose S.D 1 S.L1 (S.ent x)
        have q2 := lput_bytes S.D 1 S.L1 (S.ent x) (by omega)
        split
        · exact ⟨show S.rs.length ≤ _ by omega, show (Lg.put S.D 1 S.L1 (S.ent x)).2.1.loose.length ≤ _ by omega, show (Lg.bytesOf S.L0.rs).length ≤ _ by omega, show (Lg.bytesOf (Lg.put S.D 1 S.L1 (S.ent x)).2.2.rs).length ≤ _ by omega, h.p⟩
        · have q3 := lsync_loose (Lg.put S.D 1 S.L1 (S.ent x)).2.1 (Lg.put S.D 1 S.L1 (S.ent x)).2.2
          have q4 := lsync_rs (Lg.put S.D 1 S.L1 (S.ent x)).2.1 (Lg.put S.D 1 S.L1 (S.ent x)).2.2
          refine ⟨show (S.rs ++ [x]).length ≤ _ by simp; omega, show (Lg.sync (Lg.put S.D 1 S.L1 (S.ent x)).2.1 (Lg.put S.D 1 S.L1 (S.ent x)).2.2).2.1.loose.length ≤ _ by omega, show (Lg.bytesOf S.L0.rs).length ≤ _ by omega, show (Lg.bytesOf (Lg.sync (Lg.put S.D 1 S.L1 (S.ent x)).2.1 (Lg.put S.D 1 S.L1 (S.ent x)).2.2).2.2.rs).length ≤ _ by rw [q4]; omega, fun y hy => ?_⟩
          have hy : y ∈ S.rs ++ [x] := hy
          rcases List.mem_append.1 hy with hy | hy
          · exact h.p y hy
          · rw [List.mem_singleton.1 hy]; exact hx2

theorem in_add {w0 : Fr} {w : World} {n d l0 l1 : Nat} {lv : Value} {S : InSt} {j : Nat} (h : InLive w0 w n d l0 l1 lv S) (hf : InFit j S) (hj : j < 500) (x : InR) (hk : Cl.In64 x.key) (hv : Cl.In64 x.val) :
    Calls Try.prog 15 #[ptr n 0, x.val'] w fun e w' => ∃ lv', e = .returned (.int .i64 (S.add x).1) ∧ InLive w0 w' n d l0 l1 lv' (S.add x).2 := by
  have hn := hf.n
  have hm := hf.m
  have h0 := hf.b0
  have h1 := hf.b1
  have he := ent_size S x
  have hc : j * inC ≤ 500 * 65600 := Nat.mul_le_mul (by omega) (by unfold inC; exact Nat.le_refl _)
  have h0 : (Lg.bytesOf S.L0.rs).length ≤ 900000000 := Nat.le_trans h0 (Nat.le_trans hc (by decide))
  have h1 : (Lg.bytesOf S.L1.rs).length ≤ 900000000 := Nat.le_trans h1 (Nat.le_trans hc (by decide))
  clear hc
  by_cases hx : x.part < 0 ∨ 2 ≤ x.part
  · exact (inadd_arg h x hx).mono fun _ _ ⟨a, b⟩ => ⟨lv, a, b⟩
  · obtain ⟨p, k, v⟩ := x
    have hx2 : p = 0 ∨ p = 1 := by
      have hx : ¬ (p < 0 ∨ 2 ≤ p) := hx
      omega
    rcases hx2 with rfl | rfl
    · exact inadd_0 h k v hk hv (by omega) (by omega) (by omega) (by omega)
    · exact inadd_1 h k v hk hv (by omega) (by omega) (by omega) (by omega)

end Go.Proofs.Ytllecjhfbojgcaa

/-
  At in range.
-/
namespace Go.Proofs.Ytllecjhfbojgcaa
open Go.RowKit
set_option maxRecDepth 20000

set_option maxHeartbeats 4000000 in
theorem at_good {w0 : Fr} {w : World} {n d l0 l1 : Nat} {lv : Value} {S : InSt} (h : InLive w0 w n d l0 l1 lv S) (k : Nat) (hn : S.rs.length ≤ 500) (x : InR) (hx : S.rs[k]? = some x) :
    Calls Try.prog 16 #[ptr n 0, .int .i64 (k : Int)] w fun e w' => e = .returned (.tuple #[x.val', .int .i64 0]) ∧ Below w.heap.size w w' := by
  obtain ⟨hc, hr, -⟩ := h.cells
  have hkl := (List.getElem?_eq_some_iff.1 hx).1
  obtain ⟨b, o, cap, rfl, hcap, hcm, hblt, hcells⟩ := hr.reads.some (by omega)
  have c2 := cells_at hc 2 _ rfl
  obtain ⟨i0, i1, i2⟩ := inCells_at S.rs k x hx
  have r0 := hcells _ _ i0
  have r1 := hcells _ _ i1
  have r2 := hcells _ _ i2
  rw [← Nat.add_assoc] at r1 r2
  simp only [List.getElem_toArray, List.getElem_cons_zero, List.getElem_cons_succ] at c2
  have hk1 : ¬ ((S.rs.length : Int) ≤ (k : Int)) := by omega
  have hk2 : ¬ ((k : Int) < 0) := by omega
  have hk3 : (k : Int) < (S.rs.length : Int) := by omega
  obtain ⟨m, hm⟩ : ∃ m, S.rs.length = m := ⟨_, rfl⟩
  rw [hm] at c2 hn hk1 hk3 hcap
  unfold maxLen at hcm
  have hnlt : n < w.heap.size := (Array.getElem?_eq_some_iff.1 hc).1
  obtain ⟨p, kk, v⟩ := x
  have hz := heap_alloc_new w (.cells #[.int .i64 p, .int .i64 kk, .int .i64 v] 32)
  have q0 := cells_at hz 0 _ rfl
  have q1 := cells_at hz 1 _ rfl
  have q2 := cells_at hz 2 _ rfl
  clear h hc hr hcells hm hkl hx i0 i1 i2 hz
  unfold ptr InR.val'
  show Calls _ _ _ _ fun e w' => e = .returned (.tuple #[.agg #[.int .i64 p, .int .i64 kk, .int .i64 v], .int .i64 0]) ∧ _
  go_enter Try.func16, Try.ntmps16
  go_wp2_with fail
  exact bodyPost_ret (v := .tuple #[.agg #[.int .i64 p, .int .i64 kk, .int .i64 v], .int .i64 0]) (by simp [results, Try.results16, go_sem, q0, q1, q2]) rfl ⟨rfl, bel_alloc _ _⟩

end Go.Proofs.Ytllecjhfbojgcaa
