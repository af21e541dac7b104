/-
  The reference's disk in memory; New, Left, Read, op, Power, Sync walked.
-/
import Derived.Test.YtllecjhfbojgcaaDiskLive
import Derived.Test.YtllecjhfbojgcaaFreeRegion
import Derived.StillTailTactics
import Derived.Deep.CutRange
namespace Go.Proofs.Ytllecjhfbojgcaa
open Go.RowKit
set_option maxRecDepth 20000

def chCells : Dk.Ch → List Value
  | .app f s => [.int .i64 1, .int .i64 (f : Int), .int .i64 0, .string s]
  | .cut f n => [.int .i64 2, .int .i64 (f : Int), .int .i64 (n : Int), .string ⟨#[]⟩]
  | .mov a b => [.int .i64 3, .int .i64 (a : Int), .int .i64 (b : Int), .string ⟨#[]⟩]
def chgCells (l : List Dk.Ch) : List Value := l.flatMap chCells
theorem chCells_len (c : Dk.Ch) : (chCells c).length = 4 := by cases c <;> rfl
theorem chgCells_len (l : List Dk.Ch) : (chgCells l).length = l.length * 4 := by
  induction l with
  | nil => rfl
  | cons c l ih =>
    show (chCells c ++ chgCells l).length = _
    rw [List.length_append, chCells_len, ih, List.length_cons]; omega
theorem chgCells_snoc (l : List Dk.Ch) (c : Dk.Ch) : chgCells (l ++ [c]) = chgCells l ++ chCells c := by simp [chgCells]
theorem chgCells_one (l : List Dk.Ch) : ∀ u ∈ chgCells l, u.oneCell' = true := by
  intro u hu
  obtain ⟨c, -, hc⟩ := List.mem_flatMap.1 hu
  cases c <;> (simp only [chCells, List.mem_cons, List.not_mem_nil, or_false] at hc; rcases hc with rfl | rfl | rfl | rfl <;> simp [Value.oneCell'])
theorem chgCells_at (l : List Dk.Ch) : ∀ (k : Nat) (c : Dk.Ch), l[k]? = some c → ∀ (j : Nat) (v : Value), (chCells c)[j]? = some v → (chgCells l)[k * 4 + j]? = some v := by
  induction l with
  | nil => intro k c h; simp at h
  | cons x l ih =>
    intro k c h j v hv
    have hj : j < 4 := by have := (List.getElem?_eq_some_iff.1 hv).1; rwa [chCells_len] at this
    cases k with
    | zero =>
      simp only [List.getElem?_cons_zero, Option.some.injEq] at h
      subst h
      show (chCells x ++ chgCells l)[0 * 4 + j]? = _
      rw [Nat.zero_mul, Nat.zero_add, List.getElem?_append_left (by rw [chCells_len]; exact hj)]
      exact hv
    | succ k =>
      have := ih k c (by simpa using h) j v hv
      show (chCells x ++ chgCells l)[(k + 1) * 4 + j]? = _
      rw [List.getElem?_append_right (by rw [chCells_len]; omega), chCells_len, show (k + 1) * 4 + j - 4 = k * 4 + j by omega]
      exact this

structure RDAt (w : World) (r : Nat) (S : Dk.St) (G : Nat → Prop) : Prop where
  ok : Dk.Ok S
  mem : G r
  lt : ∀ k, G k → k < w.heap.size
  cells : ∃ lv, w.heap[r]? = some (.cells (diskCells S lv) 61) ∧ w.ownsRow 0 132 4 lv S.loose.length (chgCells S.loose) ∧ ∀ g, lv.ownBlock = some g → G g

theorem RDAt.kept {w w' : World} {r : Nat} {S : Dk.St} {G : Nat → Prop} (h : RDAt w r S G) (hk : ∀ k, G k → w'.heap[k]? = w.heap[k]?) (hs : w.heap.size ≤ w'.heap.size) : RDAt w' r S G := by
  obtain ⟨lv, h1, h2, h3⟩ := h.cells
  exact ⟨h.ok, h.mem, fun k hk' => Nat.lt_of_lt_of_le (h.lt k hk') hs, lv, (hk r h.mem).trans h1, own_kept h2 (fun g hg => hk g (h3 g hg)), h3⟩
theorem RDAt.below {w w' : World} {r : Nat} {S : Dk.St} {G : Nat → Prop} (h : RDAt w r S G) (hb : Below w.heap.size w w') : RDAt w' r S G := h.kept (fun k hk => hb.block k (h.lt k hk)) hb.size
theorem RDAt.only {w w' : World} {r : Nat} {S : Dk.St} {F G : Nat → Prop} (h : RDAt w r S G) (hb : Only F w w') (hd : ∀ k, G k → ¬ F k) : RDAt w' r S G := h.kept (fun k hk => hb.block k (h.lt k hk) (hd k hk)) hb.size

/-- What a call leaves. -/
def RTurned (w w' : World) (r : Nat) (S' : Dk.St) (G : Nat → Prop) : Prop := ∃ G', Only G w w' ∧ RDAt w' r S' G' ∧ ∀ k, G' k → G k ∨ w.heap.size ≤ k
theorem RTurned.below {w w' : World} {r : Nat} {S : Dk.St} {G : Nat → Prop} (h : RDAt w r S G) (hb : Below w.heap.size w w') : RTurned w w' r S G := ⟨G, Only.below hb, h.below hb, fun _ hk => .inl hk⟩
theorem RTurned.self {w : World} {r : Nat} {S : Dk.St} {G : Nat → Prop} (h : RDAt w r S G) : RTurned w w r S G := ⟨G, Only.refl _ _, h, fun _ hk => .inl hk⟩
theorem RTurned.trans {a b c : World} {r : Nat} {S S' : Dk.St} {G : Nat → Prop} (h : RTurned a b r S G) (k : ∀ G', RDAt b r S G' → RTurned b c r S' G') : RTurned a c r S' G := by
  obtain ⟨G1, o1, h1, g1⟩ := h
  obtain ⟨G2, o2, h2, g2⟩ := k G1 h1
  have hs := o1.size
  exact ⟨G2, o1.trans' o2 g1, h2, fun k hk => by rcases g2 k hk with h | h; exact g1 k h; exact .inr (by omega)⟩
theorem RTurned.after {a b c : World} {r : Nat} {S : Dk.St} {G : Nat → Prop} (hb : Below a.heap.size a b) (h : RTurned b c r S G) : RTurned a c r S G := by
  obtain ⟨G1, o1, h1, g1⟩ := h
  have hs := hb.size
  exact ⟨G1, (Only.below hb).trans o1, h1, fun k hk => by rcases g1 k hk with h | h; exact .inl h; exact .inr (by omega)⟩

/-- Stores into the box that leave the row. -/
theorem RDAt.set {w : World} {r : Nat} {S S' : Dk.St} {G : Nat → Prop} {lv : Value} (h : RDAt w r S G) (hc : w.heap[r]? = some (.cells (diskCells S lv) 61)) (hl : w.ownsRow 0 132 4 lv S.loose.length (chgCells S.loose)) (hG : ∀ g, lv.ownBlock = some g → G g)
    {w' : World} (ho : Only (fun k => k = r) w w') (hc' : w'.heap[r]? = some (.cells (diskCells S' lv) 61)) (hok : Dk.Ok S') (hlo : S'.loose = S.loose) : RTurned w w' r S' G := by
  refine ⟨G, ho.mono (fun i e => by rw [show i = r from e]; exact h.mem), ⟨hok, h.mem, fun k hk => Nat.lt_of_lt_of_le (h.lt k hk) ho.size, lv, hc', ?_, hG⟩, fun _ hk => .inl hk⟩
  rw [hlo]
  refine own_kept hl (fun g hg => ?_)
  rcases hl.2 with hh | ⟨g', cap, cur, hv, _, hcc, _⟩
  · rw [hh.1] at hg; cases hg
  · rw [hv] at hg
    simp only [Value.ownBlock, Option.some.injEq] at hg
    subst hg
    refine ho.block _ (Array.getElem?_eq_some_iff.1 hcc).1 (fun e => ?_)
    have e : g' = r := e
    rw [e, hc] at hcc
    simp only [Option.some.injEq, Obj.cells.injEq] at hcc
    exact absurd hcc.2.1 (by decide)
/-- The box written anew, its row emptied. -/
theorem RDAt.anew {w w' : World} {r : Nat} {S S' : Dk.St} {G : Nat → Prop} (h : RDAt w r S G) (ho : Only (fun k => k = r) w w') (hc : w'.heap[r]? = some (.cells (diskCells S' (.slice none 0 0)) 61)) (hok : Dk.Ok S') (hl : S'.loose = []) : RTurned w w' r S' G :=
  ⟨G, ho.mono (fun i e => by rw [show i = r from e]; exact h.mem), ⟨hok, h.mem, fun k hk => Nat.lt_of_lt_of_le (h.lt k hk) ho.size, _, hc, by rw [hl]; exact World.ownsRow_nil _ _ _ _, fun g hg => by cases hg⟩, fun _ hk => .inl hk⟩

theorem rnew_bad (room : Int) (w : World) (h : ¬ (1 ≤ room ∧ room ≤ 4194304)) :
    Calls Try.prog 22 #[.int .i64 room] w fun e w' => e = .returned (.tuple #[.pointer none, .int .i64 2]) ∧ w = w' := by
  by_cases h1 : room < 1
  · have h0 : decide (room < 1) = true := by simpa using h1
    clear h h1
    go_enter Try.func22, Try.ntmps22
    go_wp2_with fail
    go_ret2
    exact ⟨rfl, rfl⟩
  · have h0 : decide (room < 1) = false := by simpa using h1
    have h2 : decide (4194304 < room) = true := by simp; omega
    clear h h1
    go_enter Try.func22, Try.ntmps22
    go_wp2_with fail
    go_ret2
    exact ⟨rfl, rfl⟩

theorem rnew_ok (room : Nat) (w : World) (h : 1 ≤ room ∧ room ≤ 4194304) :
    Calls Try.prog 22 #[.int .i64 (room : Int)] w fun e w' => e = .returned (.tuple #[ptr w.heap.size 0, .int .i64 0]) ∧ Below w.heap.size w w' ∧ RDAt w' w.heap.size (Dk.fresh room) (fun k => k = w.heap.size) ∧ w'.heap.size = w.heap.size + 1 := by
  have h0 : decide ((room : Int) < 1) = false := by simp; omega
  have h2 : decide (4194304 < (room : Int)) = false := by simp; omega
  have H := Lib.hid h
  clear h
  go_enter Try.func22, Try.ntmps22
  go_wp2_with fail
  go_ret2
  refine ⟨rfl, bel_alloc _ _, ⟨Dk.fresh_ok _ H.out.2, rfl, fun k hk => by subst hk; simp, _, heap_alloc_new w _, World.ownsRow_nil _ _ _ _, fun g hg => by cases hg⟩, by simp⟩

theorem rcell_now {w : World} {r : Nat} {S : Dk.St} {lv : Value} {T : TypeId} (h : Dk.Ok S) (hc : w.heap[r]? = some (.cells (diskCells S lv) T)) (n : Nat) (hn : n < 16) : w.cell? ⟨r, 1 + n, none⟩ = some (.string (Dk.at' S.now n)) :=
  cells_at hc _ _ (by simpa [diskCells] using diskL_now h lv n hn)
theorem rrange_now {w : World} {d : Nat} {S : Dk.St} {lv : Value} {T : TypeId} (h : Dk.Ok S) (hc : w.heap[d]? = some (.cells (diskCells S lv) T)) : w.rangeAt d 1 (strs S.now) := by
  intro j v hv
  have hj : j < 16 := by
    have := (List.getElem?_eq_some_iff.1 hv).1
    rwa [strs_len, h.nowL] at this
  rw [strs_at _ _ (by rw [h.nowL]; exact hj)] at hv
  cases hv
  exact cells_at hc _ _ (by simpa [diskCells] using diskL_now h lv j hj)
theorem rrange_sure {w : World} {d : Nat} {S : Dk.St} {lv : Value} {T : TypeId} (h : Dk.Ok S) (hc : w.heap[d]? = some (.cells (diskCells S lv) T)) : w.rangeAt d 17 (strs S.sure) := by
  intro j v hv
  have hj : j < 16 := by
    have := (List.getElem?_eq_some_iff.1 hv).1
    rwa [strs_len, h.sureL] at this
  rw [strs_at _ _ (by rw [h.sureL]; exact hj)] at hv
  cases hv
  exact cells_at hc _ _ (by simpa [diskCells] using diskL_sure h lv j hj)
theorem rinfo (l : List Value) (h : l.length = 16) : (Try.prog.info? 58).map (·.size) = some l.length := by rw [h]; kernel_rfl
theorem rinfo' (l : List Value) (h : l.length = 16) : (Try.prog.info? 58).map (·.size) = some l.toArray.size := by
  rw [List.size_toArray]; exact rinfo l h

set_option maxHeartbeats 1000000 in
theorem rleft_any (w : World) (r : Nat) (S : Dk.St) (G : Nat → Prop) (h : RDAt w r S G) :
    Calls Try.prog 110 #[ptr r 0] w fun e w' => e = .returned (.int .i64 (Dk.leftOf S)) ∧ w = w' := by
  obtain ⟨lo, hc, hl, hg⟩ := h.cells
  have c0 := cells_at hc 0 (.int .i64 (S.room : Int)) (by simpa [diskCells] using diskL_room S lo)
  have HC := Lib.hid (fun n hn => rcell_now h.ok hc n hn)
  have HT := Lib.hid h.ok.total
  have HN := Lib.hid h.ok.nowL
  have hroom := h.ok.room
  clear h hc hl hg
  unfold ptr
  go_enter Try.func110, Try.ntmps110
  go_wp2_with fail
  go_loop [3, 4] (fun n i => ∃ k : Nat, k ≤ 16 ∧ i = .int .i64 k ∧ n = .int .i64 ((S.room : Int) - (Dk.total (S.now.take k) : Int))) (fun _ i => 16 - (intOf i).toNat)
  case atStart => exact ⟨0, Nat.zero_le _, rfl, by simp [Dk.total]⟩
  case round =>
    obtain ⟨k, hk, rfl, rfl⟩ := hrel
    have hle := total_take_le S.now k
    have ht := HT.out
    by_cases hlt : k < 16
    · have HS := Lib.hid (total_take S.now k (by rw [HN.out]; exact hlt))
      have hix := HC.out k hlt
      have hsz := Dk.at_le S.now k
      obtain ⟨T, hT⟩ : ∃ T, Dk.total (S.now.take k) = T := ⟨_, rfl⟩
      obtain ⟨sv, hz⟩ : ∃ sv, Dk.at' S.now k = sv := ⟨_, rfl⟩
      rw [hT] at hle ⊢
      rw [hz] at hsz hix
      have HTT := Lib.hid hT
      have HZ := Lib.hid hz
      clear hT hz
      have hz5 : sv.size ≤ 4194304 := by omega
      have hr0 : (0 : Int) ≤ (S.room : Int) - (T : Int) := by omega
      have hr1 : (S.room : Int) - (T : Int) ≤ 4194304 := by omega
      obtain ⟨y, hy⟩ : ∃ y, (S.room : Int) - (T : Int) = y := ⟨_, rfl⟩
      rw [hy] at hr0 hr1 ⊢
      have HY := Lib.hid hy
      have hk16 : (k : Int) < 16 := by omega
      clear hy hle ht hsz
      go_wp2_with fail
      go_round
      case rel => exact ⟨k + 1, by omega, by go_num, by rw [HS.out, HTT.out, HZ.out, ← HY.out]; go_num⟩
      case measure => simp [intOf]; omega
    · obtain rfl : k = 16 := by omega
      go_wp2_with fail
      go_ret
      exact ⟨ret_int (by unfold Dk.leftOf; rw [List.take_of_length_le (by rw [HN.out]; exact Nat.le_refl _)]), rfl⟩

theorem rread_any (w : World) (r : Nat) (S : Dk.St) (G : Nat → Prop) (h : RDAt w r S G) (f : Int) :
    Calls Try.prog 62 #[ptr r 0, .int .i64 f] w fun e w' => e = .returned (.tuple #[.string (Dk.read S f).1, .int .i64 (Dk.read S f).2]) ∧ w = w' := by
  obtain ⟨lo, hc, hl, hg⟩ := h.cells
  obtain ⟨-, c34, -⟩ := diskC_rest h.ok lo
  have c34 := cells_at hc 34 _ c34
  unfold Dk.read
  by_cases hr : Dk.ready S [f] = 0
  · obtain ⟨hoff, hr1⟩ := Dk.ready_one hr
    obtain ⟨n, rfl⟩ : ∃ n : Nat, f = n := ⟨f.toNat, by omega⟩
    have hn : n < 16 := by omega
    have cn := rcell_now h.ok hc n hn
    rw [if_neg (by simp [hr])]
    rw [hoff] at c34
    have d1 : decide ((n : Int) < 0) = false := by simp
    have d2 : decide ((15 : Int) < (n : Int)) = false := by simp; omega
    clear h hr hc hr1 hl hg
    unfold ptr
    go_enter Try.func62, Try.ntmps62
    go_wp2_with fail
    go_ret2
    exact ⟨rfl, rfl⟩
  · rw [if_pos (by simpa using hr)]
    by_cases ho : S.off = true
    · have hx : Dk.ready S [f] = 50 := by unfold Dk.ready; rw [if_pos ho]
      rw [hx]
      rw [ho] at c34
      clear h hr hc hl hg hx
      unfold ptr
      go_enter Try.func62, Try.ntmps62
      go_wp2_with fail
      go_ret2
      exact ⟨rfl, rfl⟩
    · have ho : S.off = false := by simpa using ho
      have hx : Dk.ready S [f] = Dk.argE [f] := by unfold Dk.ready; rw [ho]; rfl
      rw [hx] at hr ⊢
      have hb : ¬ [f].all Dk.isF = true := fun e => hr (Dk.argE_ok e)
      rw [Dk.argE_bad hb]
      rw [ho] at c34
      clear h hr hc hl hg hx
      unfold ptr
      by_cases h0 : f < 0
      · have d1 : decide (f < 0) = true := by simpa using h0
        clear hb
        go_enter Try.func62, Try.ntmps62
        go_wp2_with fail
        go_ret2
        exact ⟨rfl, rfl⟩
      · have d1 : decide (f < 0) = false := by simpa using h0
        have d2 : decide ((15 : Int) < f) = true := by
          simp [Dk.isF] at hb ⊢
          omega
        clear hb
        go_enter Try.func62, Try.ntmps62
        go_wp2_with fail
        go_ret2
        exact ⟨rfl, rfl⟩

theorem rop_any (w : World) (r : Nat) (S : Dk.St) (G : Nat → Prop) (h : RDAt w r S G) :
    Calls Try.prog 97 #[ptr r 0] w fun e w' => e = .returned (.int .i64 (Dk.op S).1) ∧ RTurned w w' r (Dk.op S).2 G := by
  obtain ⟨lo, hc, hl, hg⟩ := h.cells
  obtain ⟨-, c34, c35⟩ := diskC_rest h.ok lo
  have c34 := cells_at hc 34 _ c34
  have c35 := cells_at hc 35 _ c35
  have f34 := cells_free hc 34
  have f35 := cells_free hc 35
  obtain ⟨-, g34, g35⟩ := diskC_set h.ok.nowL h.ok.sureL lo
  have hlf := h.ok.left
  have hOK := (op_ok h.ok).1
  have H := Lib.hid h
  have HC := Lib.hid hc
  have HL := Lib.hid hl
  have HGG := Lib.hid hg
  unfold Dk.op at hOK ⊢
  unfold ptr
  by_cases h0 : S.left = 0
  · rw [if_pos h0] at hOK ⊢
    rw [h0] at c35
    have HG := Lib.hid g34
    have HOK := Lib.hid hOK
    clear h hc hl g34 g35 hOK h0 hlf hg
    go_enter Try.func97, Try.ntmps97
    go_wp2_with fail
    go_ret
    exact ⟨rfl, H.out.set HC.out HL.out HGG.out (Only.setCell _ _ ⟨r, 34, none⟩ _ rfl) (by rw [cells_set HC.out, HG.out true]) HOK.out rfl⟩
  · rw [if_neg h0] at hOK ⊢
    have hz : (S.left == 0) = false := by simpa using h0
    by_cases h1 : 0 < S.left
    · rw [if_pos h1] at hOK ⊢
      have hd : decide (0 < S.left) = true := by simpa using h1
      have HG := Lib.hid g35
      have HOK := Lib.hid hOK
      clear h hc hl g34 g35 hOK h0 hg
      go_enter Try.func97, Try.ntmps97
      go_wp2_with fail
      go_ret
      exact ⟨rfl, H.out.set HC.out HL.out HGG.out (Only.setCell _ _ ⟨r, 35, none⟩ _ rfl) (by rw [cells_set HC.out, HG.out]) HOK.out rfl⟩
    · rw [if_neg h1] at hOK ⊢
      have hd : decide (0 < S.left) = false := by simpa using h1
      clear h hc hl g34 g35 hOK h0 hg
      go_enter Try.func97, Try.ntmps97
      go_wp2_with fail
      go_ret
      exact ⟨rfl, RTurned.self H.out⟩

end Go.Proofs.Ytllecjhfbojgcaa

/-
  The reference's disk: Power, Sync, made walked.
-/
namespace Go.Proofs.Ytllecjhfbojgcaa
open Go.RowKit
set_option maxRecDepth 20000

theorem rpower_any (w : World) (r : Nat) (S : Dk.St) (G : Nat → Prop) (h : RDAt w r S G) (n : Int) (hn : n ≤ 9223372036854775807) :
    Calls Try.prog 27 #[ptr r 0, .int .i64 n] w fun e w' => e = .returned (.int .i64 (Dk.power S n).1) ∧ RTurned w w' r (Dk.power S n).2 G := by
  have hOK := Dk.power_ok h.ok n hn
  have H := Lib.hid h
  obtain ⟨lo, hc, hl, hg⟩ := h.cells
  obtain ⟨-, c34, c35⟩ := diskC_rest h.ok lo
  have c34 := cells_at hc 34 _ c34
  have c35 := cells_at hc 35 _ c35
  have f35 := cells_free hc 35
  obtain ⟨-, -, g35⟩ := diskC_set h.ok.nowL h.ok.sureL lo
  have HC := Lib.hid hc
  have HL := Lib.hid hl
  have HGG := Lib.hid hg
  have HG := Lib.hid g35
  clear h hc hl g35 hg
  unfold Dk.power at hOK ⊢
  by_cases ho : S.off = true
  · rw [if_pos ho] at hOK ⊢
    rw [ho] at c34
    clear hOK ho hn
    unfold ptr
    go_enter Try.func27, Try.ntmps27
    go_wp2_with fail
    go_ret
    exact ⟨rfl, RTurned.self H.out⟩
  · rw [if_neg ho] at hOK ⊢
    rw [show S.off = false by simpa using ho] at c34
    clear ho
    by_cases h0 : n < 0
    · rw [if_pos h0]
      have hd : decide (n < 0) = true := by simpa using h0
      clear h0 hOK
      unfold ptr
      go_enter Try.func27, Try.ntmps27
      go_wp2_with fail
      go_ret
      exact ⟨rfl, RTurned.self H.out⟩
    · rw [if_neg h0] at hOK ⊢
      have hd : decide (n < 0) = false := by simpa using h0
      have HOK := Lib.hid hOK
      clear h0 hOK
      unfold ptr
      go_enter Try.func27, Try.ntmps27
      go_wp2_with fail
      go_ret
      exact ⟨rfl, H.out.set HC.out HL.out HGG.out (Only.setCell _ _ ⟨r, 35, none⟩ _ rfl) (by rw [cells_set HC.out, HG.out n]) HOK.out rfl⟩

set_option maxHeartbeats 1000000 in
theorem rsync_any (w : World) (r : Nat) (S : Dk.St) (G : Nat → Prop) (h : RDAt w r S G) :
    Calls Try.prog 60 #[ptr r 0] w fun e w' => e = .returned (.int .i64 (Dk.sync S).1) ∧ RTurned w w' r (Dk.sync S).2 G := by
  have hOK := Dk.sync_ok h.ok
  have H := Lib.hid h
  obtain ⟨lo, hc, hl, hg⟩ := h.cells
  obtain ⟨-, c34, -⟩ := diskC_rest h.ok lo
  have c34 := cells_at hc 34 _ c34
  clear h hc hl hg
  unfold Dk.sync at hOK ⊢
  by_cases ho : S.off = true
  · rw [if_pos ho] at hOK ⊢
    rw [ho] at c34
    clear hOK ho
    unfold ptr
    go_enter Try.func60, Try.ntmps60
    go_wp2_with fail
    go_ret
    exact ⟨rfl, RTurned.self H.out⟩
  · rw [if_neg ho] at hOK ⊢
    have ho : S.off = false := by simpa using ho
    rw [ho] at c34
    by_cases h0 : S.left = 0
    · rw [if_pos h0]
      have hop : Dk.op S = (50, { S with off := true }) := if_pos h0
      have HOP := Lib.hid hop
      clear h0 hOK hop ho
      unfold ptr
      go_enter Try.func60, Try.ntmps60
      go_wp2_with fail
      refine (rop_any _ r S G H.out).mono ?_
      rintro e w1 ⟨rfl, ht⟩
      rw [HOP.out] at ht ⊢
      have HT := Lib.hid ht
      clear ht
      go_wp2_with fail
      go_ret
      exact ⟨rfl, HT.out⟩
    · rw [if_neg h0] at hOK ⊢
      have hop : Dk.op S = (0, { S with left := Dk.less S.left }) := by
        unfold Dk.op
        rw [if_neg h0]
        unfold Dk.less
        split <;> rfl
      have HOP := Lib.hid hop
      have HOK := Lib.hid hOK
      clear h0 hOK hop ho
      unfold ptr
      go_enter Try.func60, Try.ntmps60
      go_wp2_with fail
      refine (rop_any _ r S G H.out).mono ?_
      rintro e w1 ⟨rfl, ht⟩
      rw [HOP.out] at ht ⊢
      obtain ⟨G1, ho1, hD1, hg1⟩ := ht
      obtain ⟨lo, hc1, hl1, hgg1⟩ := hD1.cells
      have hnL := hD1.ok.nowL
      have hsL := hD1.ok.sureL
      have hrg := Lib.hid (rrange_now hD1.ok hc1)
      have hin := Lib.hid (rinfo (strs S.now) (by rw [strs_len]; exact hnL))
      have hin' := Lib.hid (rinfo' (strs S.now) (by rw [strs_len]; exact hnL))
      have hth := Lib.hid (there_of hc1 17 (strs S.now).toArray.size (by rw [List.size_toArray, strs_len]; unfold diskCells; rw [List.size_toArray, diskL_len hD1.ok]; simp at hnL; omega))
      have hone := Lib.hid (strs_one S.now)
      have HO1 := Lib.hid ho1
      have HG1 := Lib.hid hg1
      have HD1 := Lib.hid hD1
      have HC1 := Lib.hid hc1
      have HNL := Lib.hid hnL
      have HSL := Lib.hid hsL
      clear ho1 hD1 hc1 hl1 hnL hsL hgg1 hg1
      obtain ⟨W, hW⟩ : ∃ W, w1.setCells r 17 (strs S.now).toArray.toList = W := ⟨_, rfl⟩
      have hcW : W.heap[r]? = some (.cells (diskCells { S with sure := S.now, left := Dk.less S.left } lo) 61) := by
        rw [← hW, heap_setCells _ _ _ _ HC1.out, puts_sure HNL.out HSL.out lo S.now HNL.out]
        rfl
      have hoW : Only (fun k => k = r) w1 W := by rw [← hW]; exact Only.setCells (S := fun k => k = r) r rfl _ _ _
      have hok2 : Dk.Ok { S with sure := S.now, loose := [], left := Dk.less S.left } := HOK.out
      have q33 := cells_at hcW 33 lo (by show (diskL { S with sure := S.now, loose := [], left := Dk.less S.left } lo).toArray[33]? = _; simpa using diskL_rest hok2 lo 0)
      have r33 := cells_free hcW 33
      have HW := Lib.hid hW
      have HCW := Lib.hid hcW
      have HOW := Lib.hid hoW
      clear hW hcW hoW
      go_wp2_with (first
        | (refine wpList_load_mid rfl 58 _ rfl r 1 rfl (strs S.now) _ hrg.out Try.underlying58 rfl hin.out ?_)
        | (refine wpList_store_mid rfl 58 _ _ rfl r 17 (strs S.now).toArray rfl rfl hth.out hin'.out hone.out ?_; rw [HW.out]))
      go_ret
      have hfin := HD1.out.anew (S' := { S with sure := S.now, loose := [], left := Dk.less S.left }) (HOW.out.trans (Only.setCell (fun k => k = r) W ⟨r, 33, none⟩ (.slice none 0 0) rfl)) (by
        rw [cells_set HCW.out, (diskC_set (S := { S with sure := S.now, left := Dk.less S.left }) HNL.out HNL.out lo).1]
        rfl) HOK.out rfl
      obtain ⟨G2, o2, h2, g2⟩ := hfin
      have hs := HO1.out.size
      exact ⟨rfl, G2, HO1.out.trans' o2 HG1.out, h2, fun k hk => by rcases g2 k hk with h | h; exact HG1.out k h; exact .inr (by omega)⟩

theorem strs_set (fs : Dk.Files) (f : Nat) (v : ByteArray) : (strs fs).toArray.setIfInBounds f (.string v) = (strs (fs.set f v)).toArray := by
  rw [List.setIfInBounds_toArray]
  unfold strs
  rw [List.map_set]
def none16 : List Value := List.replicate 16 (.string ⟨#[]⟩)
theorem none16_cells : none16.toArray = #[Value.string ⟨#[]⟩, .string ⟨#[]⟩, .string ⟨#[]⟩, .string ⟨#[]⟩, .string ⟨#[]⟩, .string ⟨#[]⟩, .string ⟨#[]⟩, .string ⟨#[]⟩, .string ⟨#[]⟩, .string ⟨#[]⟩, .string ⟨#[]⟩, .string ⟨#[]⟩, .string ⟨#[]⟩, .string ⟨#[]⟩, .string ⟨#[]⟩, .string ⟨#[]⟩] := rfl

/-- The three boxes of made, as they lie behind its first region. -/
structure Boxes (w V : World) (fs : Dk.Files) (c : Array Value) : Prop where
  bel : Below w.heap.size w V
  size : V.heap.size = w.heap.size + 3
  f : V.heap[w.heap.size]? = some (.cells (strs fs).toArray 58)
  c : V.heap[w.heap.size + 1]? = some (.cells c 132)
  out : V.heap[w.heap.size + 1 + 1]? = some (.cells none16.toArray 58)
theorem Boxes.mk' (w : World) (fs : Dk.Files) (c : Array Value) : Boxes w (((w.alloc (.cells (strs fs).toArray 58)).alloc (.cells c 132)).alloc (.cells none16.toArray 58)) fs c := by
  have h1 := heap_alloc_new (w.alloc (.cells (strs fs).toArray 58)) (.cells c 132)
  have h2 := heap_alloc_new ((w.alloc (.cells (strs fs).toArray 58)).alloc (.cells c 132)) (.cells none16.toArray 58)
  rw [World.size_alloc] at h1
  rw [World.size_alloc, World.size_alloc] at h2
  exact ⟨bel_trans (bel_trans (bel_alloc _ _) (bel_alloc _ _)) (bel_alloc _ _), by simp, (Below.heap_alloc _ _ _ (by simp; omega)).trans ((Below.heap_alloc _ _ _ (by simp)).trans (heap_alloc_new _ _)), (Below.heap_alloc _ _ _ (by simp)).trans h1, h2⟩
/-- Behind a store into the files. -/
theorem Boxes.put {w V : World} {fs : Dk.Files} {c : Array Value} (h : Boxes w V fs c) (f : Nat) (v : ByteArray) : Boxes w (V.setCell ⟨w.heap.size, f, none⟩ (.string v)) (fs.set f v) c := by
  have hne : ∀ k, k ≠ w.heap.size → (V.setCell ⟨w.heap.size, f, none⟩ (.string v)).heap[k]? = V.heap[k]? := fun k hk => Below.heap_setCell _ _ _ _ (by exact hk)
  refine ⟨⟨h.bel.os, h.bel.tape, h.bel.output, by have := h.bel.size; simp; omega, fun k hk => ?_⟩, by simp [h.size], ?_, (hne _ (by omega)).trans h.c, (hne _ (by omega)).trans h.out⟩
  · rw [hne k (by omega)]
    exact h.bel.block k hk
  · rw [cells_set h.f, strs_set]
theorem Boxes.drew {w V : World} {fs : Dk.Files} {c : Array Value} (h : Boxes w V fs c) : Boxes w V.drew fs c := ⟨bel_trans h.bel (bel_drew V), h.size, h.f, h.c, h.out⟩
theorem Boxes.range {w V : World} {fs : Dk.Files} {c : Array Value} (h : Boxes w V fs c) : V.rangeAt w.heap.size 0 (strs fs) := fun j v hv => by
  rw [Nat.zero_add]
  exact cells_at h.f j v (by simpa using hv)
/-- Behind the end. -/
theorem Boxes.fin {w V : World} {fs : Dk.Files} {c : Array Value} (h : Boxes w V fs c) (hl : fs.length = 16) :
    Below w.heap.size w (V.setCells (w.heap.size + 1 + 1) 0 (strs fs).toArray.toList) ∧ (V.setCells (w.heap.size + 1 + 1) 0 (strs fs).toArray.toList).heap[w.heap.size + 1 + 1]? = some (.cells (strs fs).toArray 58) := by
  have hp := puts_mid (strs fs) [] none16 [] (by rw [strs_len, hl]; simp [none16])
  refine ⟨?_, ?_⟩
  rotate_left
  · rw [heap_setCells _ _ _ _ h.out]
    simpa using hp
  have ho := Only.setCells (S := fun k => k = w.heap.size + 1 + 1) (w.heap.size + 1 + 1) rfl (strs fs).toArray.toList 0 V
  exact h.bel.trans (ho.toBelow h.bel.size (fun i e => by rw [show i = w.heap.size + 1 + 1 from e]; omega))

set_option maxHeartbeats 1000000 in
theorem made_app (w : World) (fs : Dk.Files) (hl : fs.length = 16) (f : Nat) (hf : f < 16) (s : ByteArray) (b : Int) (hs : (Dk.at' fs f).size + s.size ≤ 4194304) :
    Calls Try.prog 65 #[.agg (strs fs).toArray, .agg (chCells (.app f s)).toArray, .int .i64 b] w fun e w' => e = .returned (.agg (strs (Dk.part f s (Dk.clip b s.size) fs)).toArray) ∧ Below w.heap.size w w' := by
  unfold chCells Dk.part
  have hs0 : ((s.size : Int) < 0) = False := by simp
  have hs1 : ((0 : Int) ≤ (s.size : Int)) = True := by simp
  have hs2 : ((s.size : Int) ≤ (s.size : Int)) = True := by simp
  by_cases h1 : b < 0
  · have hd : decide (b < 0) = true := by simpa using h1
    have hk : Dk.clip b s.size = 0 := by unfold Dk.clip; omega
    rw [hk, show s.extract 0 0 = ByteArray.empty by simp, show Dk.at' fs f ++ ByteArray.empty = Dk.at' fs f by simp]
    clear hk h1
    go_enter Try.func65, Try.ntmps65
    go_wp2_with fail
    have hB := Boxes.mk' w fs #[.int .i64 1, .int .i64 (f : Int), .int .i64 0, .string s]
    rw [none16_cells] at hB
    obtain ⟨V, hV⟩ : ∃ V, ((w.alloc (.cells (strs fs).toArray 58)).alloc (.cells #[.int .i64 1, .int .i64 (f : Int), .int .i64 0, .string s] 132)).alloc (.cells #[Value.string ⟨#[]⟩, .string ⟨#[]⟩, .string ⟨#[]⟩, .string ⟨#[]⟩, .string ⟨#[]⟩, .string ⟨#[]⟩, .string ⟨#[]⟩, .string ⟨#[]⟩, .string ⟨#[]⟩, .string ⟨#[]⟩, .string ⟨#[]⟩, .string ⟨#[]⟩, .string ⟨#[]⟩, .string ⟨#[]⟩, .string ⟨#[]⟩, .string ⟨#[]⟩] 58) = V := ⟨_, rfl⟩
    rw [hV] at hB ⊢
    have x0 := cells_at hB.f f (.string (Dk.at' fs f)) (by simpa using strs_at fs f (by omega))
    have xf := cells_free hB.f f
    have x1 := cells_at hB.c 0 _ rfl
    have x2 := cells_at hB.c 1 _ rfl
    have x3 := cells_at hB.c 2 _ rfl
    have x4 := cells_at hB.c 3 _ rfl
    simp only [List.getElem_toArray, List.getElem_cons_zero, List.getElem_cons_succ] at x1 x2 x3 x4
    obtain ⟨fv, hfv⟩ : ∃ fv, Dk.at' fs f = fv := ⟨_, rfl⟩
    rw [hfv] at hs x0
    have HFV := Lib.hid hfv
    have HB := Lib.hid hB
    have hf16 : (f : Int) < 16 := by omega
    clear hV hB hfv
    have hsum : (9223372036854775807 < fv.size) = False := by simp; omega
    refine wp_region_still_tail 11 (by kernel_rfl) (by kernel_rfl) ?_
    simp only [List.take_succ_cons, List.take_zero, List.drop_succ_cons, List.drop_zero]
    change wpStill _ _ V.drew (fun a' => wpList _ _ _ _ a' V.drew) _ _
    repeat still_step
    refine wpStill_nil ?_
    go_upto_region 13 with fail
    have hX := HB.out.drew.put f (fv)
    obtain ⟨X, hXX⟩ : ∃ X, V.drew.setCell ⟨w.heap.size, f, none⟩ (.string (fv)) = X := ⟨_, rfl⟩
    first
      | rw [hXX] at hX ⊢
      | (rw [show (V.setCell ⟨w.heap.size, f, none⟩ (.string (fv))).drew = X from hXX]; rw [hXX] at hX)
    have HX := Lib.hid hX
    clear hX
    have hrg := Lib.hid HX.out.range
    have hlx : (fs.set f fv).length = 16 := by simp; exact hl
    have hin := Lib.hid (rinfo (strs (fs.set f fv)) (by rw [strs_len]; exact hlx))
    have hin' := Lib.hid (rinfo' (strs (fs.set f fv)) (by rw [strs_len]; exact hlx))
    have hth := Lib.hid (there_of HX.out.out 0 (strs (fs.set f fv)).toArray.size (by rw [List.size_toArray, strs_len, hlx]; simp [none16]))
    have hone := Lib.hid (strs_one (fs.set f fv))
    have hfin := HX.out.fin hlx
    have HF := Lib.hid hfin
    obtain ⟨Y, hY⟩ : ∃ Y, X.setCells (w.heap.size + 1 + 1) 0 (strs (fs.set f fv)).toArray.toList = Y := ⟨_, rfl⟩
    have HY := Lib.hid hY
    rw [hY] at HF
    clear hfin hY
    go_wp2_with (first
      | (refine wpList_load_mid rfl 58 _ rfl w.heap.size 0 rfl (strs (fs.set f fv)) _ hrg.out Try.underlying58 rfl hin.out ?_)
      | (refine wpList_store_mid rfl 58 _ _ rfl (w.heap.size + 1 + 1) 0 (strs (fs.set f fv)).toArray rfl rfl hth.out hin'.out hone.out ?_; rw [HY.out]))
    exact bodyPost_ret (v := .agg (strs (fs.set f fv)).toArray) (results_cell_row (fn := Try.f65) rfl _ Y (w.heap.size + 1 + 1) 58 (strs (fs.set f fv)).toArray _ _ rfl HF.out.2 Try.underlying58 rfl hin'.out) rfl ⟨by rw [HFV.out], HF.out.1⟩
  · have hd : decide (b < 0) = false := by simpa using h1
    by_cases h2 : (s.size : Int) < b
    · have hd2 : decide ((s.size : Int) < b) = true := by simpa using h2
      have hk : Dk.clip b s.size = s.size := by unfold Dk.clip; omega
      rw [hk, Dk.extract_all]
      clear hk h1 h2
      go_enter Try.func65, Try.ntmps65
      go_wp2_with fail
      have hB := Boxes.mk' w fs #[.int .i64 1, .int .i64 (f : Int), .int .i64 0, .string s]
      rw [none16_cells] at hB
      obtain ⟨V, hV⟩ : ∃ V, ((w.alloc (.cells (strs fs).toArray 58)).alloc (.cells #[.int .i64 1, .int .i64 (f : Int), .int .i64 0, .string s] 132)).alloc (.cells #[Value.string ⟨#[]⟩, .string ⟨#[]⟩, .string ⟨#[]⟩, .string ⟨#[]⟩, .string ⟨#[]⟩, .string ⟨#[]⟩, .string ⟨#[]⟩, .string ⟨#[]⟩, .string ⟨#[]⟩, .string ⟨#[]⟩, .string ⟨#[]⟩, .string ⟨#[]⟩, .string ⟨#[]⟩, .string ⟨#[]⟩, .string ⟨#[]⟩, .string ⟨#[]⟩] 58) = V := ⟨_, rfl⟩
      rw [hV] at hB ⊢
      have x0 := cells_at hB.f f (.string (Dk.at' fs f)) (by simpa using strs_at fs f (by omega))
      have xf := cells_free hB.f f
      have x1 := cells_at hB.c 0 _ rfl
      have x2 := cells_at hB.c 1 _ rfl
      have x3 := cells_at hB.c 2 _ rfl
      have x4 := cells_at hB.c 3 _ rfl
      simp only [List.getElem_toArray, List.getElem_cons_zero, List.getElem_cons_succ] at x1 x2 x3 x4
      obtain ⟨fv, hfv⟩ : ∃ fv, Dk.at' fs f = fv := ⟨_, rfl⟩
      rw [hfv] at hs x0
      have HFV := Lib.hid hfv
      have HB := Lib.hid hB
      have hf16 : (f : Int) < 16 := by omega
      clear hV hB hfv
      have hsum : (9223372036854775807 < fv.size + s.size) = False := by simp; omega
      refine wp_region_still_tail 11 (by kernel_rfl) (by kernel_rfl) ?_
      simp only [List.take_succ_cons, List.take_zero, List.drop_succ_cons, List.drop_zero]
      change wpStill _ _ V.drew (fun a' => wpList _ _ _ _ a' V.drew) _ _
      repeat still_step
      refine wpStill_nil ?_
      go_upto_region 13 with fail
      have hX := HB.out.drew.put f (fv ++ s)
      obtain ⟨X, hXX⟩ : ∃ X, V.drew.setCell ⟨w.heap.size, f, none⟩ (.string (fv ++ s)) = X := ⟨_, rfl⟩
      first
        | rw [hXX] at hX ⊢
        | (rw [show (V.setCell ⟨w.heap.size, f, none⟩ (.string (fv ++ s))).drew = X from hXX]; rw [hXX] at hX)
      have HX := Lib.hid hX
      clear hX
      have hrg := Lib.hid HX.out.range
      have hlx : (fs.set f (fv ++ s)).length = 16 := by simp; exact hl
      have hin := Lib.hid (rinfo (strs (fs.set f (fv ++ s))) (by rw [strs_len]; exact hlx))
      have hin' := Lib.hid (rinfo' (strs (fs.set f (fv ++ s))) (by rw [strs_len]; exact hlx))
      have hth := Lib.hid (there_of HX.out.out 0 (strs (fs.set f (fv ++ s))).toArray.size (by rw [List.size_toArray, strs_len, hlx]; simp [none16]))
      have hone := Lib.hid (strs_one (fs.set f (fv ++ s)))
      have hfin := HX.out.fin hlx
      have HF := Lib.hid hfin
      obtain ⟨Y, hY⟩ : ∃ Y, X.setCells (w.heap.size + 1 + 1) 0 (strs (fs.set f (fv ++ s))).toArray.toList = Y := ⟨_, rfl⟩
      have HY := Lib.hid hY
      rw [hY] at HF
      clear hfin hY
      go_wp2_with (first
        | (refine wpList_load_mid rfl 58 _ rfl w.heap.size 0 rfl (strs (fs.set f (fv ++ s))) _ hrg.out Try.underlying58 rfl hin.out ?_)
        | (refine wpList_store_mid rfl 58 _ _ rfl (w.heap.size + 1 + 1) 0 (strs (fs.set f (fv ++ s))).toArray rfl rfl hth.out hin'.out hone.out ?_; rw [HY.out]))
      exact bodyPost_ret (v := .agg (strs (fs.set f (fv ++ s))).toArray) (results_cell_row (fn := Try.f65) rfl _ Y (w.heap.size + 1 + 1) 58 (strs (fs.set f (fv ++ s))).toArray _ _ rfl HF.out.2 Try.underlying58 rfl hin'.out) rfl ⟨by rw [HFV.out], HF.out.1⟩
    · obtain ⟨m, rfl⟩ : ∃ m : Nat, b = m := ⟨b.toNat, by omega⟩
      have hd2 : decide ((s.size : Int) < (m : Int)) = false := by simpa using h2
      have h2' : ((m : Int) < 0) = False := by simp
      have h3 : ((0 : Int) ≤ (m : Int)) = True := by simp
      have hd3 : ((s.size : Int) < (m : Int)) = False := by simpa using h2
      have h4 : ((m : Int) ≤ (s.size : Int)) = True := by simp at h2 ⊢; omega
      have hk : Dk.clip (m : Int) s.size = m := by simp at h2; unfold Dk.clip; omega
      rw [hk]
      clear hk h1 h2
      go_enter Try.func65, Try.ntmps65
      go_wp2_with fail
      have hB := Boxes.mk' w fs #[.int .i64 1, .int .i64 (f : Int), .int .i64 0, .string s]
      rw [none16_cells] at hB
      obtain ⟨V, hV⟩ : ∃ V, ((w.alloc (.cells (strs fs).toArray 58)).alloc (.cells #[.int .i64 1, .int .i64 (f : Int), .int .i64 0, .string s] 132)).alloc (.cells #[Value.string ⟨#[]⟩, .string ⟨#[]⟩, .string ⟨#[]⟩, .string ⟨#[]⟩, .string ⟨#[]⟩, .string ⟨#[]⟩, .string ⟨#[]⟩, .string ⟨#[]⟩, .string ⟨#[]⟩, .string ⟨#[]⟩, .string ⟨#[]⟩, .string ⟨#[]⟩, .string ⟨#[]⟩, .string ⟨#[]⟩, .string ⟨#[]⟩, .string ⟨#[]⟩] 58) = V := ⟨_, rfl⟩
      rw [hV] at hB ⊢
      have x0 := cells_at hB.f f (.string (Dk.at' fs f)) (by simpa using strs_at fs f (by omega))
      have xf := cells_free hB.f f
      have x1 := cells_at hB.c 0 _ rfl
      have x2 := cells_at hB.c 1 _ rfl
      have x3 := cells_at hB.c 2 _ rfl
      have x4 := cells_at hB.c 3 _ rfl
      simp only [List.getElem_toArray, List.getElem_cons_zero, List.getElem_cons_succ] at x1 x2 x3 x4
      obtain ⟨fv, hfv⟩ : ∃ fv, Dk.at' fs f = fv := ⟨_, rfl⟩
      rw [hfv] at hs x0
      have HFV := Lib.hid hfv
      have HB := Lib.hid hB
      have hf16 : (f : Int) < 16 := by omega
      clear hV hB hfv
      have hsum : (9223372036854775807 < fv.size + min m s.size) = False := by simp; omega
      refine wp_region_still_tail 11 (by kernel_rfl) (by kernel_rfl) ?_
      simp only [List.take_succ_cons, List.take_zero, List.drop_succ_cons, List.drop_zero]
      change wpStill _ _ V.drew (fun a' => wpList _ _ _ _ a' V.drew) _ _
      repeat still_step
      refine wpStill_nil ?_
      go_upto_region 13 with fail
      have hX := HB.out.drew.put f (fv ++ s.extract 0 m)
      obtain ⟨X, hXX⟩ : ∃ X, V.drew.setCell ⟨w.heap.size, f, none⟩ (.string (fv ++ s.extract 0 m)) = X := ⟨_, rfl⟩
      first
        | rw [hXX] at hX ⊢
        | (rw [show (V.setCell ⟨w.heap.size, f, none⟩ (.string (fv ++ s.extract 0 m))).drew = X from hXX]; rw [hXX] at hX)
      have HX := Lib.hid hX
      clear hX
      have hrg := Lib.hid HX.out.range
      have hlx : (fs.set f (fv ++ s.extract 0 m)).length = 16 := by simp; exact hl
      have hin := Lib.hid (rinfo (strs (fs.set f (fv ++ s.extract 0 m))) (by rw [strs_len]; exact hlx))
      have hin' := Lib.hid (rinfo' (strs (fs.set f (fv ++ s.extract 0 m))) (by rw [strs_len]; exact hlx))
      have hth := Lib.hid (there_of HX.out.out 0 (strs (fs.set f (fv ++ s.extract 0 m))).toArray.size (by rw [List.size_toArray, strs_len, hlx]; simp [none16]))
      have hone := Lib.hid (strs_one (fs.set f (fv ++ s.extract 0 m)))
      have hfin := HX.out.fin hlx
      have HF := Lib.hid hfin
      obtain ⟨Y, hY⟩ : ∃ Y, X.setCells (w.heap.size + 1 + 1) 0 (strs (fs.set f (fv ++ s.extract 0 m))).toArray.toList = Y := ⟨_, rfl⟩
      have HY := Lib.hid hY
      rw [hY] at HF
      clear hfin hY
      go_wp2_with (first
        | (refine wpList_load_mid rfl 58 _ rfl w.heap.size 0 rfl (strs (fs.set f (fv ++ s.extract 0 m))) _ hrg.out Try.underlying58 rfl hin.out ?_)
        | (refine wpList_store_mid rfl 58 _ _ rfl (w.heap.size + 1 + 1) 0 (strs (fs.set f (fv ++ s.extract 0 m))).toArray rfl rfl hth.out hin'.out hone.out ?_; rw [HY.out]))
      exact bodyPost_ret (v := .agg (strs (fs.set f (fv ++ s.extract 0 m))).toArray) (results_cell_row (fn := Try.f65) rfl _ Y (w.heap.size + 1 + 1) 58 (strs (fs.set f (fv ++ s.extract 0 m))).toArray _ _ rfl HF.out.2 Try.underlying58 rfl hin'.out) rfl ⟨by rw [HFV.out], HF.out.1⟩

set_option maxHeartbeats 1000000 in
theorem made_cutc (w : World) (fs : Dk.Files) (hl : fs.length = 16) (f n : Nat) (hf : f < 16) (b : Int) (hs : n ≤ (Dk.at' fs f).size) :
    Calls Try.prog 65 #[.agg (strs fs).toArray, .agg (chCells (.cut f n)).toArray, .int .i64 b] w fun e w' => e = .returned (.agg (strs ((Dk.Ch.cut f n).run fs)).toArray) ∧ Below w.heap.size w w' := by
  unfold chCells Dk.Ch.run
  go_enter Try.func65, Try.ntmps65
  go_wp2_with fail
  have hB := Boxes.mk' w fs #[.int .i64 2, .int .i64 (f : Int), .int .i64 (n : Int), .string ⟨#[]⟩]
  rw [none16_cells] at hB
  obtain ⟨V, hV⟩ : ∃ V, ((w.alloc (.cells (strs fs).toArray 58)).alloc (.cells #[.int .i64 2, .int .i64 (f : Int), .int .i64 (n : Int), .string ⟨#[]⟩] 132)).alloc (.cells #[Value.string ⟨#[]⟩, .string ⟨#[]⟩, .string ⟨#[]⟩, .string ⟨#[]⟩, .string ⟨#[]⟩, .string ⟨#[]⟩, .string ⟨#[]⟩, .string ⟨#[]⟩, .string ⟨#[]⟩, .string ⟨#[]⟩, .string ⟨#[]⟩, .string ⟨#[]⟩, .string ⟨#[]⟩, .string ⟨#[]⟩, .string ⟨#[]⟩, .string ⟨#[]⟩] 58) = V := ⟨_, rfl⟩
  rw [hV] at hB ⊢
  have x0 := cells_at hB.f f (.string (Dk.at' fs f)) (by simpa using strs_at fs f (by omega))
  have xf := cells_free hB.f f
  have x1 := cells_at hB.c 0 _ rfl
  have x2 := cells_at hB.c 1 _ rfl
  have x3 := cells_at hB.c 2 _ rfl
  have x4 := cells_at hB.c 3 _ rfl
  simp only [List.getElem_toArray, List.getElem_cons_zero, List.getElem_cons_succ] at x1 x2 x3 x4
  obtain ⟨fv, hfv⟩ : ∃ fv, Dk.at' fs f = fv := ⟨_, rfl⟩
  rw [hfv] at hs x0
  have HFV := Lib.hid hfv
  have HB := Lib.hid hB
  have hf16 : (f : Int) < 16 := by omega
  clear hV hB hfv
  have h3 : ((0 : Int) ≤ (n : Int)) = True := by simp
  have h4 : ((n : Int) ≤ (fv.size : Int)) = True := by simp; omega
  refine wp_region_still_tail 9 (by kernel_rfl) (by kernel_rfl) ?_
  simp only [List.take_succ_cons, List.take_zero, List.drop_succ_cons, List.drop_zero]
  change wpStill _ _ V.drew (fun a' => wpList _ _ _ _ a' V.drew) _ _
  repeat still_step
  refine wpStill_nil ?_
  go_upto_region 13 with fail
  have hX := HB.out.drew.put f (fv.extract 0 n)
  obtain ⟨X, hXX⟩ : ∃ X, V.drew.setCell ⟨w.heap.size, f, none⟩ (.string (fv.extract 0 n)) = X := ⟨_, rfl⟩
  first
    | rw [hXX] at hX ⊢
    | (rw [show (V.setCell ⟨w.heap.size, f, none⟩ (.string (fv.extract 0 n))).drew = X from hXX]; rw [hXX] at hX)
  have HX := Lib.hid hX
  clear hX
  have hrg := Lib.hid HX.out.range
  have hlx : (fs.set f (fv.extract 0 n)).length = 16 := by simp; exact hl
  have hin := Lib.hid (rinfo (strs (fs.set f (fv.extract 0 n))) (by rw [strs_len]; exact hlx))
  have hin' := Lib.hid (rinfo' (strs (fs.set f (fv.extract 0 n))) (by rw [strs_len]; exact hlx))
  have hth := Lib.hid (there_of HX.out.out 0 (strs (fs.set f (fv.extract 0 n))).toArray.size (by rw [List.size_toArray, strs_len, hlx]; simp [none16]))
  have hone := Lib.hid (strs_one (fs.set f (fv.extract 0 n)))
  have hfin := HX.out.fin hlx
  have HF := Lib.hid hfin
  obtain ⟨Y, hY⟩ : ∃ Y, X.setCells (w.heap.size + 1 + 1) 0 (strs (fs.set f (fv.extract 0 n))).toArray.toList = Y := ⟨_, rfl⟩
  have HY := Lib.hid hY
  rw [hY] at HF
  clear hfin hY
  go_wp2_with (first
    | (refine wpList_load_mid rfl 58 _ rfl w.heap.size 0 rfl (strs (fs.set f (fv.extract 0 n))) _ hrg.out Try.underlying58 rfl hin.out ?_)
    | (refine wpList_store_mid rfl 58 _ _ rfl (w.heap.size + 1 + 1) 0 (strs (fs.set f (fv.extract 0 n))).toArray rfl rfl hth.out hin'.out hone.out ?_; rw [HY.out]))
  exact bodyPost_ret (v := .agg (strs (fs.set f (fv.extract 0 n))).toArray) (results_cell_row (fn := Try.f65) rfl _ Y (w.heap.size + 1 + 1) 58 (strs (fs.set f (fv.extract 0 n))).toArray _ _ rfl HF.out.2 Try.underlying58 rfl hin'.out) rfl ⟨by rw [HFV.out], HF.out.1⟩
set_option maxHeartbeats 1000000 in
theorem made_movc (w : World) (fs : Dk.Files) (hl : fs.length = 16) (a b : Nat) (ha : a < 16) (hb : b < 16) (n : Int) :
    Calls Try.prog 65 #[.agg (strs fs).toArray, .agg (chCells (.mov a b)).toArray, .int .i64 n] w fun e w' => e = .returned (.agg (strs ((Dk.Ch.mov a b).run fs)).toArray) ∧ Below w.heap.size w w' := by
  unfold chCells Dk.Ch.run
  go_enter Try.func65, Try.ntmps65
  go_wp2_with fail
  have hB := Boxes.mk' w fs #[.int .i64 3, .int .i64 (a : Int), .int .i64 (b : Int), .string ⟨#[]⟩]
  rw [none16_cells] at hB
  obtain ⟨V, hV⟩ : ∃ V, ((w.alloc (.cells (strs fs).toArray 58)).alloc (.cells #[.int .i64 3, .int .i64 (a : Int), .int .i64 (b : Int), .string ⟨#[]⟩] 132)).alloc (.cells #[Value.string ⟨#[]⟩, .string ⟨#[]⟩, .string ⟨#[]⟩, .string ⟨#[]⟩, .string ⟨#[]⟩, .string ⟨#[]⟩, .string ⟨#[]⟩, .string ⟨#[]⟩, .string ⟨#[]⟩, .string ⟨#[]⟩, .string ⟨#[]⟩, .string ⟨#[]⟩, .string ⟨#[]⟩, .string ⟨#[]⟩, .string ⟨#[]⟩, .string ⟨#[]⟩] 58) = V := ⟨_, rfl⟩
  rw [hV] at hB ⊢
  have x0 := cells_at hB.f a (.string (Dk.at' fs a)) (by simpa using strs_at fs a (by omega))
  have y0 := cells_at hB.f b (.string (Dk.at' fs b)) (by simpa using strs_at fs b (by omega))
  have yf := cells_free hB.f b
  have xf := cells_free hB.f a
  have x1 := cells_at hB.c 0 _ rfl
  have x2 := cells_at hB.c 1 _ rfl
  have x3 := cells_at hB.c 2 _ rfl
  have x4 := cells_at hB.c 3 _ rfl
  simp only [List.getElem_toArray, List.getElem_cons_zero, List.getElem_cons_succ] at x1 x2 x3 x4
  obtain ⟨fv, hfv⟩ : ∃ fv, Dk.at' fs a = fv := ⟨_, rfl⟩
  rw [hfv] at x0
  have HFV := Lib.hid hfv
  have HB := Lib.hid hB
  have hf16 : (a : Int) < 16 := by omega
  have hg16 : (b : Int) < 16 := by omega
  clear hV hB hfv
  refine wp_region_still_tail 6 (by kernel_rfl) (by kernel_rfl) ?_
  simp only [List.take_succ_cons, List.take_zero, List.drop_succ_cons, List.drop_zero]
  change wpStill _ _ V.drew (fun a' => wpList _ _ _ _ a' V.drew) _ _
  repeat still_step
  refine wpStill_nil ?_
  go_upto_region 12 with fail
  have hX1 := HB.out.drew.put b fv
  obtain ⟨X1, hXX1⟩ : ∃ X, V.drew.setCell ⟨w.heap.size, b, none⟩ (.string fv) = X := ⟨_, rfl⟩
  first
    | rw [hXX1] at hX1 ⊢
    | (rw [show (V.setCell ⟨w.heap.size, b, none⟩ (.string fv)).drew = X1 from hXX1]; rw [hXX1] at hX1)
  have x0 := cells_at hX1.f a (.string (Dk.at' (fs.set b fv) a)) (by simpa using strs_at (fs.set b fv) a (by simp; omega))
  have xf := cells_free hX1.f a
  have x2 := cells_at hX1.c 1 _ rfl
  simp only [List.getElem_toArray, List.getElem_cons_zero, List.getElem_cons_succ] at x2
  have HX1 := Lib.hid hX1
  clear hX1 hXX1
  go_upto_region 13 with fail
  have hX := HX1.out.put a ByteArray.empty
  obtain ⟨X, hXX⟩ : ∃ X, X1.setCell ⟨w.heap.size, a, none⟩ (.string ByteArray.empty) = X := ⟨_, rfl⟩
  rw [show X1.setCell ⟨w.heap.size, a, none⟩ (.string ⟨#[]⟩) = X from hXX]
  rw [hXX] at hX
  have HX := Lib.hid hX
  clear hX
  have hrg := Lib.hid HX.out.range
  have hlx : ((fs.set b fv).set a ByteArray.empty).length = 16 := by simp; exact hl
  have hin := Lib.hid (rinfo (strs ((fs.set b fv).set a ByteArray.empty)) (by rw [strs_len]; exact hlx))
  have hin' := Lib.hid (rinfo' (strs ((fs.set b fv).set a ByteArray.empty)) (by rw [strs_len]; exact hlx))
  have hth := Lib.hid (there_of HX.out.out 0 (strs ((fs.set b fv).set a ByteArray.empty)).toArray.size (by rw [List.size_toArray, strs_len, hlx]; simp [none16]))
  have hone := Lib.hid (strs_one ((fs.set b fv).set a ByteArray.empty))
  have hfin := HX.out.fin hlx
  have HF := Lib.hid hfin
  obtain ⟨Y, hY⟩ : ∃ Y, X.setCells (w.heap.size + 1 + 1) 0 (strs ((fs.set b fv).set a ByteArray.empty)).toArray.toList = Y := ⟨_, rfl⟩
  have HY := Lib.hid hY
  rw [hY] at HF
  clear hfin hY
  go_wp2_with (first
    | (refine wpList_load_mid rfl 58 _ rfl w.heap.size 0 rfl (strs ((fs.set b fv).set a ByteArray.empty)) _ hrg.out Try.underlying58 rfl hin.out ?_)
    | (refine wpList_store_mid rfl 58 _ _ rfl (w.heap.size + 1 + 1) 0 (strs ((fs.set b fv).set a ByteArray.empty)).toArray rfl rfl hth.out hin'.out hone.out ?_; rw [HY.out]))
  exact bodyPost_ret (v := .agg (strs ((fs.set b fv).set a ByteArray.empty)).toArray) (results_cell_row (fn := Try.f65) rfl _ Y (w.heap.size + 1 + 1) 58 (strs ((fs.set b fv).set a ByteArray.empty)).toArray _ _ rfl HF.out.2 Try.underlying58 rfl hin'.out) rfl ⟨by rw [HFV.out], HF.out.1⟩

end Go.Proofs.Ytllecjhfbojgcaa
