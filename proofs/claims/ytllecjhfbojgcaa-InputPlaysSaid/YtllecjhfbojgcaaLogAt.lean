/-
  The log in memory; end, Len, Sure, At walked.
-/
import Derived.Test.YtllecjhfbojgcaaDiskLive
import Derived.Test.YtllecjhfbojgcaaLogPlain
import Derived.Deep.RegionLawGrows
import Derived.Deep.QuietTactic
import Derived.BigQuiet
namespace Go.Proofs.Ytllecjhfbojgcaa
open Go.RowKit
set_option maxRecDepth 20000

/-- A row of the call's own, or one that is cut off: its capacity is its length. -/
def RowAt (w : World) (e : TypeId) (size : Nat) (v : Value) (n : Nat) (xs : List Value) : Prop :=
  w.ownsRow 0 e size v n xs ∨ (xs.length = n * size ∧ ∃ g cur, v = .slice (some ⟨g, 0, none⟩) n n ∧ w.heap[g]? = some (.cells cur e) ∧ n ≤ maxLen ∧ n * size ≤ cur.size ∧ cur.toList.take (n * size) = xs)

theorem RowAt.kept {w w' : World} {e : TypeId} {size : Nat} {v : Value} {n : Nat} {xs : List Value} (h : RowAt w e size v n xs) (hk : ∀ g, v.ownBlock = some g → w'.heap[g]? = w.heap[g]?) : RowAt w' e size v n xs := by
  rcases h with h | ⟨h1, g, cur, rfl, h2, h3⟩
  · exact .inl (own_kept h hk)
  · exact .inr ⟨h1, g, cur, rfl, (hk g rfl).trans h2, h3⟩
theorem RowAt.type {w : World} {e : TypeId} {size : Nat} {v : Value} {n : Nat} {xs : List Value} (h : RowAt w e size v n xs) : ∀ b, v.ownBlock = some b → ∃ cur, w.heap[b]? = some (.cells cur e) := fun b hb => by
  rcases h with h | ⟨h1, g, cur, rfl, h2, h3⟩
  · rcases h.2 with hh | ⟨g', cap', cur, hv, _, hcc, _⟩
    · rw [hh.1] at hb; cases hb
    · rw [hv] at hb
      simp only [Value.ownBlock, Option.some.injEq] at hb
      subst hb
      exact ⟨_, hcc⟩
  · simp only [Value.ownBlock, Option.some.injEq] at hb
    subst hb
    exact ⟨_, h2⟩
theorem RowAt.reads {w : World} {e : TypeId} {size : Nat} {v : Value} {n : Nat} {xs : List Value} (h : RowAt w e size v n xs) : Reads w v n xs := by
  rcases h with h | ⟨h1, g, cur, rfl, h2, h3, h4, h5⟩
  · exact Reads.own h
  · refine .inr ⟨g, 0, n, rfl, Nat.le_refl _, h3, (Array.getElem?_eq_some_iff.1 h2).1, fun i c hi => ?_⟩
    rw [Nat.zero_add]
    refine cells_at h2 i c ?_
    have hlt := (List.getElem?_eq_some_iff.1 hi).1
    rw [h1] at hlt
    rw [← h5, List.getElem?_take_of_lt hlt] at hi
    simpa using hi

/-- A log at l over the disk at d. -/
structure LogAt (w : World) (l d : Nat) (file : Int) (L : Lg.St) (G : Nat → Prop) : Prop where
  mem : G l
  lt : ∀ k, G k → k < w.heap.size
  size : (Lg.bytesOf L.rs).length ≤ 1000000000
  sure : L.sure ≤ L.rs.length
  cells : ∃ lv, w.heap[l]? = some (.cells #[ptr d 0, .int .i64 file, lv, .int .i64 (L.sure : Int)] 155) ∧ RowAt w 162 3 lv L.rs.length (Lg.cells L.rs) ∧ ∀ g, lv.ownBlock = some g → G g

theorem LogAt.kept {w w' : World} {l d : Nat} {file : Int} {L : Lg.St} {G : Nat → Prop} (h : LogAt w l d file L G) (hk : ∀ k, G k → w'.heap[k]? = w.heap[k]?) (hs : w.heap.size ≤ w'.heap.size) : LogAt w' l d file L G := by
  obtain ⟨lv, h1, h2, h3⟩ := h.cells
  exact ⟨h.mem, fun k hk' => Nat.lt_of_lt_of_le (h.lt k hk') hs, h.size, h.sure, lv, (hk l h.mem).trans h1, h2.kept (fun g hg => hk g (h3 g hg)), h3⟩
theorem LogAt.below {w w' : World} {l d : Nat} {file : Int} {L : Lg.St} {G : Nat → Prop} (h : LogAt w l d file L G) (hb : Below w.heap.size w w') : LogAt w' l d file L G := h.kept (fun k hk => hb.block k (h.lt k hk)) hb.size
theorem LogAt.only {w w' : World} {l d : Nat} {file : Int} {L : Lg.St} {F G : Nat → Prop} (h : LogAt w l d file L G) (hb : Only F w w') (hd : ∀ k, G k → ¬ F k) : LogAt w' l d file L G := h.kept (fun k hk => hb.block k (h.lt k hk) (hd k hk)) hb.size

theorem logcell {w : World} {l : Nat} {a b c d : Value} {T : TypeId} (h : w.heap[l]? = some (.cells #[a, b, c, d] T)) :
    (w.cell? ⟨l, 0, none⟩ = some a ∧ w.cell? ⟨l, 1, none⟩ = some b ∧ w.cell? ⟨l, 2, none⟩ = some c ∧ w.cell? ⟨l, 3, none⟩ = some d) ∧ w.frozen? ⟨l, 2, none⟩ = false ∧ w.frozen? ⟨l, 3, none⟩ = false :=
  ⟨⟨cells_at h 0 _ rfl, cells_at h 1 _ rfl, cells_at h 2 _ rfl, cells_at h 3 _ rfl⟩, cells_free h 2, cells_free h 3⟩

theorem loglen_nil (w : World) : Calls Try.prog 45 #[.pointer none] w fun e w' => e = .returned (.int .i64 0) ∧ w = w' := by
  go_enter Try.func45, Try.ntmps45
  go_wp2_with fail
  go_ret
  exact ⟨rfl, rfl⟩
theorem loglen_any (w : World) (l d : Nat) (file : Int) (L : Lg.St) (G : Nat → Prop) (h : LogAt w l d file L G) :
    Calls Try.prog 45 #[ptr l 0] w fun e w' => e = .returned (.int .i64 (L.rs.length : Int)) ∧ w = w' := by
  obtain ⟨lv, hc, hr, -⟩ := h.cells
  obtain ⟨⟨-, -, c2, -⟩, -, -⟩ := logcell hc
  obtain ⟨a, c, rfl⟩ := hr.reads.shape
  have hlen := hr.reads.lenLe
  unfold maxLen at hlen
  clear h hc hr
  unfold ptr
  go_enter Try.func45, Try.ntmps45
  go_wp2_with fail
  go_ret
  exact ⟨rfl, rfl⟩
theorem logend_any (w : World) (l d : Nat) (file : Int) (L : Lg.St) (G : Nat → Prop) (h : LogAt w l d file L G) (k : Nat) (hk : k ≤ L.rs.length) :
    Calls Try.prog 84 #[ptr l 0, .int .i64 (k : Int)] w fun e w' => e = .returned (.int .i64 (Lg.ends L.rs k : Int)) ∧ w = w' := by
  obtain ⟨lv, hc, hr, -⟩ := h.cells
  obtain ⟨⟨-, -, c2, -⟩, -, -⟩ := logcell hc
  have hlen := hr.reads.lenLe
  unfold maxLen at hlen
  cases k with
  | zero =>
    rw [Lg.ends_zero]
    clear h hc hr c2
    unfold ptr
    go_enter Try.func84, Try.ntmps84
    go_wp2_with fail
    go_ret
    exact ⟨rfl, rfl⟩
  | succ k =>
    obtain ⟨r, hr'⟩ : ∃ r, L.rs[k]? = some r := ⟨L.rs[k], by simp⟩
    obtain ⟨-, -, h2⟩ := Lg.cells_at L.rs k r hr'
    obtain ⟨b, o, cap, rfl, hcap, -, -, hcells⟩ := hr.reads.some (by omega)
    have g2 := hcells _ _ h2
    rw [← Nat.add_assoc] at g2
    have hz : (((k + 1 : Nat) : Int) == 0) = false := beq_eq_false_iff_ne.2 (by omega)
    have he : ((k + 1 : Nat) : Int) - 1 = (k : Int) := by omega
    have hlt : (k : Int) < (L.rs.length : Int) := by omega
    have hk2 : ((k + 1 : Nat) : Int) ≤ 9223372036854775807 := by omega
    obtain ⟨j, hj⟩ : ∃ j : Int, ((k + 1 : Nat) : Int) = j := ⟨_, rfl⟩
    rw [hj] at hz he hk2 ⊢
    have hj1 : 1 ≤ j := by omega
    obtain ⟨e, hee⟩ : ∃ e, Lg.ends L.rs (k + 1) = e := ⟨_, rfl⟩
    rw [hee] at g2 ⊢
    clear h hc hr hcells h2 hr' hj hee
    unfold ptr
    go_enter Try.func84, Try.ntmps84
    go_wp2_with fail
    go_ret
    exact ⟨rfl, rfl⟩

end Go.Proofs.Ytllecjhfbojgcaa

/-
  At, Sync walked.
-/
namespace Go.Proofs.Ytllecjhfbojgcaa
open Go.RowKit
set_option maxRecDepth 20000

/-- What a call leaves of a disk and a log over it. -/
def Turned2 (w w' : World) (l d : Nat) (file : Int) (D' : Dk.St) (L' : Lg.St) (F G : Nat → Prop) : Prop :=
  ∃ F' G', Only (fun k => F k ∨ G k) w w' ∧ DiskAt w' d D' F' ∧ LogAt w' l d file L' G' ∧ (∀ k, F' k → ¬ G' k) ∧ (∀ k, F' k → F k ∨ w.heap.size ≤ k) ∧ (∀ k, G' k → G k ∨ w.heap.size ≤ k)
theorem Turned2.below {w w' : World} {l d : Nat} {file : Int} {D : Dk.St} {L : Lg.St} {F G : Nat → Prop} (hd : DiskAt w d D F) (hl : LogAt w l d file L G) (hne : ∀ k, F k → ¬ G k) (hb : Below w.heap.size w w') : Turned2 w w' l d file D L F G :=
  ⟨F, G, Only.below hb, hd.below hb, hl.below hb, hne, fun _ h => .inl h, fun _ h => .inl h⟩
theorem Turned2.disk {w w' : World} {l d : Nat} {file : Int} {D' : Dk.St} {L : Lg.St} {F G : Nat → Prop} (hl : LogAt w l d file L G) (hne : ∀ k, F k → ¬ G k) (ht : Turned w w' d D' F) : Turned2 w w' l d file D' L F G := by
  obtain ⟨F', h1, h2, h3⟩ := ht
  refine ⟨F', G, h1.mono (fun _ h => .inl h), h2, hl.only h1 (fun k hk hf => hne k hf hk), fun k hk hg => ?_, h3, fun _ h => .inl h⟩
  rcases h3 k hk with h | h
  · exact hne k h hg
  · have := hl.lt k hg; omega

def logC (d : Nat) (file : Int) (lv : Value) (sure : Nat) : Array Value := #[ptr d 0, .int .i64 file, lv, .int .i64 (sure : Int)]

/-- The log's own block written anew: how many are sure. -/
theorem LogAt.setSure {w : World} {l d : Nat} {file : Int} {L : Lg.St} {G : Nat → Prop} (h : LogAt w l d file L G) (n : Nat) (hn : n ≤ L.rs.length) :
    Only (fun k => k = l) w (w.setCell ⟨l, 3, none⟩ (.int .i64 (n : Int))) ∧ LogAt (w.setCell ⟨l, 3, none⟩ (.int .i64 (n : Int))) l d file { L with sure := n } G := by
  obtain ⟨lv, h1, h2, h3⟩ := h.cells
  have hon : Only (fun k => k = l) w (w.setCell ⟨l, 3, none⟩ (.int .i64 (n : Int))) := Only.setCell (fun k => k = l) w ⟨l, 3, none⟩ _ rfl
  refine ⟨hon, h.mem, fun k hk => Nat.lt_of_lt_of_le (h.lt k hk) hon.size, h.size, hn, lv, ?_, ?_, h3⟩
  · rw [cells_set h1]
    rfl
  · refine h2.kept (fun g hg => Below.heap_setCell _ _ _ _ (fun e => ?_))
    obtain ⟨cur, hcur⟩ := h2.type g hg
    exact far hcur h1 (by decide) e

theorem logsync_nil (w : World) : Calls Try.prog 50 #[.pointer none] w fun e w' => e = .returned (.int .i64 1) ∧ w = w' := by
  go_enter Try.func50, Try.ntmps50
  go_wp2_with fail
  go_ret
  exact ⟨rfl, rfl⟩

set_option maxHeartbeats 1000000 in
theorem logsync_any (w : World) (l d : Nat) (file : Int) (D : Dk.St) (L : Lg.St) (F G : Nat → Prop) (hd : DiskAt w d D F) (h : LogAt w l d file L G) (hne : ∀ k, F k → ¬ G k) :
    Calls Try.prog 50 #[ptr l 0] w fun e w' => e = .returned (.int .i64 (Lg.sync D L).1) ∧ Turned2 w w' l d file (Lg.sync D L).2.1 (Lg.sync D L).2.2 F G := by
  obtain ⟨lv, hc, hr, hg⟩ := h.cells
  obtain ⟨⟨c0, -, c2, c3⟩, -, -⟩ := logcell hc
  obtain ⟨a, c, rfl⟩ := hr.reads.shape
  have hlen := hr.reads.lenLe
  unfold maxLen at hlen
  have HD := Lib.hid hd
  have HL := Lib.hid h
  have HNE := Lib.hid hne
  have hsure := h.sure
  have hlt : l < w.heap.size := h.lt l h.mem
  unfold ptr at c0
  unfold Lg.sync
  by_cases hs : L.sure = L.rs.length
  · rw [if_pos hs]
    have hq : ((L.sure : Int) == (L.rs.length : Int)) = true := by simp [hs]
    have hq2 : (L.sure == L.rs.length) = true := by simp [hs]
    clear h hd hne hc hr hg hs
    unfold ptr
    go_enter Try.func50, Try.ntmps50
    go_wp2_with fail
    go_quiet (fail)
    go_wp2_with fail
    go_ret
    exact ⟨rfl, Turned2.below HD.out HL.out HNE.out (bel_drewN _ _)⟩
  · rw [if_neg hs]
    have hq : ((L.sure : Int) == (L.rs.length : Int)) = false := by simp; omega
    have hq2 : (L.sure == L.rs.length) = false := by simp; omega
    obtain ⟨e, D', hsy⟩ : ∃ e D', Dk.sync D = (e, D') := ⟨_, _, rfl⟩
    rw [hsy]
    have HSY := Lib.hid hsy
    clear h hd hne hc hr hg hs hsy
    by_cases he : e = 0
    · subst he
      rw [if_pos rfl]
      unfold ptr
      go_enter Try.func50, Try.ntmps50
      go_wp2_with fail
      go_quiet (fail)
      generalize hU : w.drewN _ = U
      have hDU : DiskAt U d D F := by rw [← hU]; exact HD.out.below (bel_drewN _ _)
      have hLU : LogAt U l d file L G := by rw [← hU]; exact HL.out.below (bel_drewN _ _)
      have hbU : Below w.heap.size w U := by rw [← hU]; exact bel_drewN _ _
      have c0 : U.cell? ⟨l, 0, none⟩ = some (.pointer (some ⟨d, 0, none⟩)) := by rw [← hU]; exact c0
      have HDU := Lib.hid hDU
      have HLU := Lib.hid hLU
      have HBU := Lib.hid hbU
      clear hU hDU hLU hbU
      go_wp2_with fail
      refine (sync_any U d D F HDU.out).mono ?_
      rintro e w1 ⟨rfl, ho1, hD1⟩
      rw [HSY.out] at hD1 ⊢
      have hL1 := HLU.out.only ho1 (fun k hk e => HNE.out d HDU.out.mem (e ▸ hk))
      obtain ⟨lv1, hc1, hr1, -⟩ := hL1.cells
      obtain ⟨⟨-, -, c2, c3⟩, f2, f3⟩ := logcell hc1
      obtain ⟨a1, c1, rfl⟩ := hr1.reads.shape
      have HO1 := Lib.hid ho1
      have HD1 := Lib.hid hD1
      have HL1 := Lib.hid hL1
      clear ho1 hD1 hL1 hc1 hr1
      go_wp2_with fail
      go_ret
      obtain ⟨s1, s2⟩ := HL1.out.setSure L.rs.length (Nat.le_refl _)
      refine ⟨rfl, F, G, ?_, HD1.out.only s1 (fun k hk e => HNE.out k hk (e ▸ HL1.out.mem)), s2, HNE.out, fun _ h => .inl h, fun _ h => .inl h⟩
      exact ((Only.below HBU.out).trans (HO1.out.mono (fun i e => .inl (e ▸ HD.out.mem)))).trans (s1.mono (fun i e => .inr (e ▸ HL1.out.mem)))
    · rw [if_neg he]
      have hz : (e == 0) = false := by simpa using he
      unfold ptr
      go_enter Try.func50, Try.ntmps50
      go_wp2_with fail
      go_quiet (fail)
      generalize hU : w.drewN _ = U
      have hDU : DiskAt U d D F := by rw [← hU]; exact HD.out.below (bel_drewN _ _)
      have hLU : LogAt U l d file L G := by rw [← hU]; exact HL.out.below (bel_drewN _ _)
      have hbU : Below w.heap.size w U := by rw [← hU]; exact bel_drewN _ _
      have c0 : U.cell? ⟨l, 0, none⟩ = some (.pointer (some ⟨d, 0, none⟩)) := by rw [← hU]; exact c0
      have HDU := Lib.hid hDU
      have HLU := Lib.hid hLU
      have HBU := Lib.hid hbU
      clear hU hDU hLU hbU he
      go_wp2_with fail
      refine (sync_any U d D F HDU.out).mono ?_
      rintro e w1 ⟨rfl, ho1, hD1⟩
      rw [HSY.out] at hD1 ⊢
      have HO1 := Lib.hid ho1
      have HD1 := Lib.hid hD1
      clear ho1 hD1
      go_wp2_with fail
      go_ret
      refine ⟨rfl, F, G, ?_, HD1.out, HLU.out.only HO1.out (fun k hk e => HNE.out d HDU.out.mem (e ▸ hk)), HNE.out, fun _ h => .inl h, fun _ h => .inl h⟩
      exact (Only.below HBU.out).trans (HO1.out.mono (fun i e => .inl (e ▸ HD.out.mem)))

theorem logat_nil (i : Int) (w : World) : Calls Try.prog 46 #[.pointer none, .int .i64 i] w fun e w' => e = .returned (.tuple #[.int .u8 0, .string ⟨#[]⟩, .int .i64 1]) ∧ w = w' := by
  go_enter Try.func46, Try.ntmps46
  go_wp2_with fail
  go_ret3
  exact ⟨rfl, rfl⟩

set_option maxHeartbeats 1000000 in
theorem logat_any (w : World) (l d : Nat) (file : Int) (L : Lg.St) (G : Nat → Prop) (h : LogAt w l d file L G) (i : Int) :
    Calls Try.prog 46 #[ptr l 0, .int .i64 i] w fun e w' => e = .returned (.tuple #[.int .u8 (Lg.at' L i).1, .string (Lg.at' L i).2.1, .int .i64 (Lg.at' L i).2.2]) ∧ Below w.heap.size w w' := by
  obtain ⟨lv, hc, hr, -⟩ := h.cells
  obtain ⟨⟨-, -, c2, -⟩, -, -⟩ := logcell hc
  have hlen := hr.reads.lenLe
  unfold maxLen at hlen
  unfold Lg.at'
  by_cases h0 : i < 0
  · rw [if_pos h0]
    have hd : decide (i < 0) = true := by simpa using h0
    obtain ⟨a, c, rfl⟩ := hr.reads.shape
    clear h hc hr h0
    unfold ptr
    go_enter Try.func46, Try.ntmps46
    go_wp2_with fail
    go_ret3
    exact ⟨rfl, Below.refl _ _⟩
  · rw [if_neg h0]
    obtain ⟨k, rfl⟩ : ∃ k : Nat, i = k := ⟨i.toNat, by omega⟩
    have hd : decide ((k : Int) < 0) = false := by simp
    rw [Int.toNat_natCast]
    cases hk : L.rs[k]? with
    | none =>
      have hge := List.getElem?_eq_none_iff.1 hk
      have hd2 : decide (L.rs.length ≤ k) = true := by simpa using hge
      obtain ⟨a, c, rfl⟩ := hr.reads.shape
      clear h hc hr h0 hk hge
      unfold ptr
      go_enter Try.func46, Try.ntmps46
      go_wp2_with fail
      go_ret3
      exact ⟨rfl, Below.refl _ _⟩
    | some r =>
      have hlt := (List.getElem?_eq_some_iff.1 hk).1
      have hd2 : decide (L.rs.length ≤ k) = false := by simpa using hlt
      obtain ⟨h1, h2, -⟩ := Lg.cells_at L.rs k r hk
      obtain ⟨b, o, cap, rfl, hcap, -, -, hcells⟩ := hr.reads.some (by omega)
      have g1 := hcells _ _ h1
      have g2 := hcells _ _ h2
      rw [← Nat.add_assoc] at g2
      have hlt' : (k : Int) < (L.rs.length : Int) := by omega
      clear h hc hr h0 hk h1 h2 hcells
      unfold ptr
      go_enter Try.func46, Try.ntmps46
      go_wp2_with fail
      go_quiet (fail)
      go_wp2_with fail
      go_ret3
      exact ⟨rfl, bel_drewN _ _⟩

end Go.Proofs.Ytllecjhfbojgcaa
