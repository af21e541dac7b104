/-
  The reference's disk in memory; New, Left, Read, op, Power, Sync walked.
-/
import Derived.Test.YtdnjmihalmhddaaDiskLive
namespace Go.Proofs.Ytdnjmihalmhddaa
open Go.RowKit

def chCells : Dk.Ch → List Value
  | .app f s => [.int .i64 1, .int .i64 (f : Int), .int .i64 0, .string s]
  | .cut f n => [.int .i64 2, .int .i64 (f : Int), .int .i64 (n : Int), .string ⟨#[]⟩]
  | .mov a b => [.int .i64 3, .int .i64 (a : Int), .int .i64 (b : Int), .string ⟨#[]⟩]
def chgCells (l : List Dk.Ch) : List Value := l.flatMap chCells
theorem chCells_len (c : Dk.Ch) : (chCells c).length = 4 := by cases c <;> rfl
theorem chgCells_len (l : List Dk.Ch) : (chgCells l).length = l.length * 4 := by
  induction l with
  | nil => rfl
  | cons c l ih =>
    show (chCells c ++ chgCells l).length = _
    rw [List.length_append, chCells_len, ih, List.length_cons]; omega
theorem chgCells_snoc (l : List Dk.Ch) (c : Dk.Ch) : chgCells (l ++ [c]) = chgCells l ++ chCells c := by simp [chgCells]
theorem chgCells_one (l : List Dk.Ch) : ∀ u ∈ chgCells l, u.oneCell' = true := by
  intro u hu
  obtain ⟨c, -, hc⟩ := List.mem_flatMap.1 hu
  cases c <;> (simp only [chCells, List.mem_cons, List.not_mem_nil, or_false] at hc; rcases hc with rfl | rfl | rfl | rfl <;> simp [Value.oneCell'])
theorem chgCells_at (l : List Dk.Ch) : ∀ (k : Nat) (c : Dk.Ch), l[k]? = some c → ∀ (j : Nat) (v : Value), (chCells c)[j]? = some v → (chgCells l)[k * 4 + j]? = some v := by
  induction l with
  | nil => intro k c h; simp at h
  | cons x l ih =>
    intro k c h j v hv
    have hj : j < 4 := by have := (List.getElem?_eq_some_iff.1 hv).1; rwa [chCells_len] at this
    cases k with
    | zero =>
      simp only [List.getElem?_cons_zero, Option.some.injEq] at h
      subst h
      show (chCells x ++ chgCells l)[0 * 4 + j]? = _
      rw [Nat.zero_mul, Nat.zero_add, List.getElem?_append_left (by rw [chCells_len]; exact hj)]
      exact hv
    | succ k =>
      have := ih k c (by simpa using h) j v hv
      show (chCells x ++ chgCells l)[(k + 1) * 4 + j]? = _
      rw [List.getElem?_append_right (by rw [chCells_len]; omega), chCells_len, show (k + 1) * 4 + j - 4 = k * 4 + j by omega]
      exact this

structure RDAt (w : World) (r : Nat) (S : Dk.St) (G : Nat → Prop) : Prop where
  ok : Dk.Ok S
  mem : G r
  lt : ∀ k, G k → k < w.heap.size
  cells : ∃ lv, w.heap[r]? = some (.cells (diskCells S lv) 47) ∧ w.ownsRow 0 82 4 lv S.loose.length (chgCells S.loose) ∧ ∀ g, lv.ownBlock = some g → G g

theorem RDAt.kept {w w' : World} {r : Nat} {S : Dk.St} {G : Nat → Prop} (h : RDAt w r S G) (hk : ∀ k, G k → w'.heap[k]? = w.heap[k]?) (hs : w.heap.size ≤ w'.heap.size) : RDAt w' r S G := by
  obtain ⟨lv, h1, h2, h3⟩ := h.cells
  exact ⟨h.ok, h.mem, fun k hk' => Nat.lt_of_lt_of_le (h.lt k hk') hs, lv, (hk r h.mem).trans h1, own_kept h2 (fun g hg => hk g (h3 g hg)), h3⟩
theorem RDAt.below {w w' : World} {r : Nat} {S : Dk.St} {G : Nat → Prop} (h : RDAt w r S G) (hb : Below w.heap.size w w') : RDAt w' r S G := h.kept (fun k hk => hb.block k (h.lt k hk)) hb.size
theorem RDAt.only {w w' : World} {r : Nat} {S : Dk.St} {F G : Nat → Prop} (h : RDAt w r S G) (hb : Only F w w') (hd : ∀ k, G k → ¬ F k) : RDAt w' r S G := h.kept (fun k hk => hb.block k (h.lt k hk) (hd k hk)) hb.size

/-- What a call leaves. -/
def RTurned (w w' : World) (r : Nat) (S' : Dk.St) (G : Nat → Prop) : Prop := ∃ G', Only G w w' ∧ RDAt w' r S' G' ∧ ∀ k, G' k → G k ∨ w.heap.size ≤ k
theorem RTurned.below {w w' : World} {r : Nat} {S : Dk.St} {G : Nat → Prop} (h : RDAt w r S G) (hb : Below w.heap.size w w') : RTurned w w' r S G := ⟨G, Only.below hb, h.below hb, fun _ hk => .inl hk⟩
theorem RTurned.self {w : World} {r : Nat} {S : Dk.St} {G : Nat → Prop} (h : RDAt w r S G) : RTurned w w r S G := ⟨G, Only.refl _ _, h, fun _ hk => .inl hk⟩
theorem RTurned.trans {a b c : World} {r : Nat} {S S' : Dk.St} {G : Nat → Prop} (h : RTurned a b r S G) (k : ∀ G', RDAt b r S G' → RTurned b c r S' G') : RTurned a c r S' G := by
  obtain ⟨G1, o1, h1, g1⟩ := h
  obtain ⟨G2, o2, h2, g2⟩ := k G1 h1
  have hs := o1.size
  exact ⟨G2, o1.trans' o2 g1, h2, fun k hk => by rcases g2 k hk with h | h; exact g1 k h; exact .inr (by omega)⟩
theorem RTurned.after {a b c : World} {r : Nat} {S : Dk.St} {G : Nat → Prop} (hb : Below a.heap.size a b) (h : RTurned b c r S G) : RTurned a c r S G := by
  obtain ⟨G1, o1, h1, g1⟩ := h
  have hs := hb.size
  exact ⟨G1, (Only.below hb).trans o1, h1, fun k hk => by rcases g1 k hk with h | h; exact .inl h; exact .inr (by omega)⟩

/-- Stores into the box that leave the row. -/
theorem RDAt.set {w : World} {r : Nat} {S S' : Dk.St} {G : Nat → Prop} {lv : Value} (h : RDAt w r S G) (hc : w.heap[r]? = some (.cells (diskCells S lv) 47)) (hl : w.ownsRow 0 82 4 lv S.loose.length (chgCells S.loose)) (hG : ∀ g, lv.ownBlock = some g → G g)
    {w' : World} (ho : Only (fun k => k = r) w w') (hc' : w'.heap[r]? = some (.cells (diskCells S' lv) 47)) (hok : Dk.Ok S') (hlo : S'.loose = S.loose) : RTurned w w' r S' G := by
  refine ⟨G, ho.mono (fun i e => by rw [show i = r from e]; exact h.mem), ⟨hok, h.mem, fun k hk => Nat.lt_of_lt_of_le (h.lt k hk) ho.size, lv, hc', ?_, hG⟩, fun _ hk => .inl hk⟩
  rw [hlo]
  refine own_kept hl (fun g hg => ?_)
  rcases hl.2 with hh | ⟨g', cap, cur, hv, _, hcc, _⟩
  · rw [hh.1] at hg; cases hg
  · rw [hv] at hg
    simp only [Value.ownBlock, Option.some.injEq] at hg
    subst hg
    refine ho.block _ (Array.getElem?_eq_some_iff.1 hcc).1 (fun e => ?_)
    have e : g' = r := e
    rw [e, hc] at hcc
    simp only [Option.some.injEq, Obj.cells.injEq] at hcc
    exact absurd hcc.2.1 (by decide)
/-- The box written anew, its row emptied. -/
theorem RDAt.anew {w w' : World} {r : Nat} {S S' : Dk.St} {G : Nat → Prop} (h : RDAt w r S G) (ho : Only (fun k => k = r) w w') (hc : w'.heap[r]? = some (.cells (diskCells S' (.slice none 0 0)) 47)) (hok : Dk.Ok S') (hl : S'.loose = []) : RTurned w w' r S' G :=
  ⟨G, ho.mono (fun i e => by rw [show i = r from e]; exact h.mem), ⟨hok, h.mem, fun k hk => Nat.lt_of_lt_of_le (h.lt k hk) ho.size, _, hc, by rw [hl]; exact World.ownsRow_nil _ _ _ _, fun g hg => by cases hg⟩, fun _ hk => .inl hk⟩

theorem rnew_bad (room : Int) (w : World) (h : ¬ (1 ≤ room ∧ room ≤ 4194304)) :
    Calls Try.prog 22 #[.int .i64 room] w fun e w' => e = .returned (.tuple #[.pointer none, .int .i64 2]) ∧ w = w' := by
  by_cases h1 : room < 1
  · have h0 : decide (room < 1) = true := by simpa using h1
    clear h h1
    go_enter Try.func22, Try.ntmps22
    go_wp2_with fail
    go_ret2
    exact ⟨rfl, rfl⟩
  · have h0 : decide (room < 1) = false := by simpa using h1
    have h2 : decide (4194304 < room) = true := by simp; omega
    clear h h1
    go_enter Try.func22, Try.ntmps22
    go_wp2_with fail
    go_ret2
    exact ⟨rfl, rfl⟩

theorem rnew_ok (room : Nat) (w : World) (h : 1 ≤ room ∧ room ≤ 4194304) :
    Calls Try.prog 22 #[.int .i64 (room : Int)] w fun e w' => e = .returned (.tuple #[ptr w.heap.size 0, .int .i64 0]) ∧ Below w.heap.size w w' ∧ RDAt w' w.heap.size (Dk.fresh room) (fun k => k = w.heap.size) ∧ w'.heap.size = w.heap.size + 1 := by
  have h0 : decide ((room : Int) < 1) = false := by simp; omega
  have h2 : decide (4194304 < (room : Int)) = false := by simp; omega
  have H := Lib.hid h
  clear h
  go_enter Try.func22, Try.ntmps22
  go_wp2_with fail
  go_ret2
  refine ⟨rfl, bel_alloc _ _, ⟨Dk.fresh_ok _ H.out.2, rfl, fun k hk => by subst hk; simp, _, heap_alloc_new w _, World.ownsRow_nil _ _ _ _, fun g hg => by cases hg⟩, by simp⟩

theorem rcell_now {w : World} {r : Nat} {S : Dk.St} {lv : Value} {T : TypeId} (h : Dk.Ok S) (hc : w.heap[r]? = some (.cells (diskCells S lv) T)) (n : Nat) (hn : n < 16) : w.cell? ⟨r, 1 + n, none⟩ = some (.string (Dk.at' S.now n)) :=
  cells_at hc _ _ (by simpa [diskCells] using diskL_now h lv n hn)
theorem rrange_now {w : World} {d : Nat} {S : Dk.St} {lv : Value} {T : TypeId} (h : Dk.Ok S) (hc : w.heap[d]? = some (.cells (diskCells S lv) T)) : w.rangeAt d 1 (strs S.now) := by
  intro j v hv
  have hj : j < 16 := by
    have := (List.getElem?_eq_some_iff.1 hv).1
    rwa [strs_len, h.nowL] at this
  rw [strs_at _ _ (by rw [h.nowL]; exact hj)] at hv
  cases hv
  exact cells_at hc _ _ (by simpa [diskCells] using diskL_now h lv j hj)
theorem rrange_sure {w : World} {d : Nat} {S : Dk.St} {lv : Value} {T : TypeId} (h : Dk.Ok S) (hc : w.heap[d]? = some (.cells (diskCells S lv) T)) : w.rangeAt d 17 (strs S.sure) := by
  intro j v hv
  have hj : j < 16 := by
    have := (List.getElem?_eq_some_iff.1 hv).1
    rwa [strs_len, h.sureL] at this
  rw [strs_at _ _ (by rw [h.sureL]; exact hj)] at hv
  cases hv
  exact cells_at hc _ _ (by simpa [diskCells] using diskL_sure h lv j hj)
theorem rinfo (l : List Value) (h : l.length = 16) : (Try.prog.info? 44).map (·.size) = some l.length := by rw [h]; kernel_rfl
theorem rinfo' (l : List Value) (h : l.length = 16) : (Try.prog.info? 44).map (·.size) = some l.toArray.size := by
  rw [List.size_toArray]; exact rinfo l h

set_option maxHeartbeats 1000000 in
theorem rleft_any (w : World) (r : Nat) (S : Dk.St) (G : Nat → Prop) (h : RDAt w r S G) :
    Calls Try.prog 24 #[ptr r 0] w fun e w' => e = .returned (.int .i64 (Dk.leftOf S)) ∧ w = w' := by
  obtain ⟨lo, hc, hl, hg⟩ := h.cells
  have c0 := cells_at hc 0 (.int .i64 (S.room : Int)) (by simpa [diskCells] using diskL_room S lo)
  have HC := Lib.hid (fun n hn => rcell_now h.ok hc n hn)
  have HT := Lib.hid h.ok.total
  have HN := Lib.hid h.ok.nowL
  have hroom := h.ok.room
  clear h hc hl hg
  unfold ptr
  go_enter Try.func24, Try.ntmps24
  go_wp2_with fail
  go_loop [3, 4] (fun n i => ∃ k : Nat, k ≤ 16 ∧ i = .int .i64 k ∧ n = .int .i64 ((S.room : Int) - (Dk.total (S.now.take k) : Int))) (fun _ i => 16 - (intOf i).toNat)
  case atStart => exact ⟨0, Nat.zero_le _, rfl, by simp [Dk.total]⟩
  case round =>
    obtain ⟨k, hk, rfl, rfl⟩ := hrel
    have hle := total_take_le S.now k
    have ht := HT.out
    by_cases hlt : k < 16
    · have HS := Lib.hid (total_take S.now k (by rw [HN.out]; exact hlt))
      have hix := HC.out k hlt
      have hsz := Dk.at_le S.now k
      obtain ⟨T, hT⟩ : ∃ T, Dk.total (S.now.take k) = T := ⟨_, rfl⟩
      obtain ⟨sv, hz⟩ : ∃ sv, Dk.at' S.now k = sv := ⟨_, rfl⟩
      rw [hT] at hle ⊢
      rw [hz] at hsz hix
      have HTT := Lib.hid hT
      have HZ := Lib.hid hz
      clear hT hz
      have hz5 : sv.size ≤ 4194304 := by omega
      have hr0 : (0 : Int) ≤ (S.room : Int) - (T : Int) := by omega
      have hr1 : (S.room : Int) - (T : Int) ≤ 4194304 := by omega
      obtain ⟨y, hy⟩ : ∃ y, (S.room : Int) - (T : Int) = y := ⟨_, rfl⟩
      rw [hy] at hr0 hr1 ⊢
      have HY := Lib.hid hy
      have hk16 : (k : Int) < 16 := by omega
      clear hy hle ht hsz
      go_wp2_with fail
      go_round
      case rel => exact ⟨k + 1, by omega, by go_num, by rw [HS.out, HTT.out, HZ.out, ← HY.out]; go_num⟩
      case measure => simp [intOf]; omega
    · obtain rfl : k = 16 := by omega
      go_wp2_with fail
      go_ret
      exact ⟨ret_int (by unfold Dk.leftOf; rw [List.take_of_length_le (by rw [HN.out]; exact Nat.le_refl _)]), rfl⟩

theorem rread_any (w : World) (r : Nat) (S : Dk.St) (G : Nat → Prop) (h : RDAt w r S G) (f : Int) :
    Calls Try.prog 25 #[ptr r 0, .int .i64 f] w fun e w' => e = .returned (.tuple #[.string (Dk.read S f).1, .int .i64 (Dk.read S f).2]) ∧ w = w' := by
  obtain ⟨lo, hc, hl, hg⟩ := h.cells
  obtain ⟨-, c34, -⟩ := diskC_rest h.ok lo
  have c34 := cells_at hc 34 _ c34
  unfold Dk.read
  by_cases hr : Dk.ready S [f] = 0
  · obtain ⟨hoff, hr1⟩ := Dk.ready_one hr
    obtain ⟨n, rfl⟩ : ∃ n : Nat, f = n := ⟨f.toNat, by omega⟩
    have hn : n < 16 := by omega
    have cn := rcell_now h.ok hc n hn
    rw [if_neg (by simp [hr])]
    rw [hoff] at c34
    have d1 : decide ((n : Int) < 0) = false := by simp
    have d2 : decide ((15 : Int) < (n : Int)) = false := by simp; omega
    clear h hr hc hr1 hl hg
    unfold ptr
    go_enter Try.func25, Try.ntmps25
    go_wp2_with fail
    go_ret2
    exact ⟨rfl, rfl⟩
  · rw [if_pos (by simpa using hr)]
    by_cases ho : S.off = true
    · have hx : Dk.ready S [f] = 50 := by unfold Dk.ready; rw [if_pos ho]
      rw [hx]
      rw [ho] at c34
      clear h hr hc hl hg hx
      unfold ptr
      go_enter Try.func25, Try.ntmps25
      go_wp2_with fail
      go_ret2
      exact ⟨rfl, rfl⟩
    · have ho : S.off = false := by simpa using ho
      have hx : Dk.ready S [f] = Dk.argE [f] := by unfold Dk.ready; rw [ho]; rfl
      rw [hx] at hr ⊢
      have hb : ¬ [f].all Dk.isF = true := fun e => hr (Dk.argE_ok e)
      rw [Dk.argE_bad hb]
      rw [ho] at c34
      clear h hr hc hl hg hx
      unfold ptr
      by_cases h0 : f < 0
      · have d1 : decide (f < 0) = true := by simpa using h0
        clear hb
        go_enter Try.func25, Try.ntmps25
        go_wp2_with fail
        go_ret2
        exact ⟨rfl, rfl⟩
      · have d1 : decide (f < 0) = false := by simpa using h0
        have d2 : decide ((15 : Int) < f) = true := by
          simp [Dk.isF] at hb ⊢
          omega
        clear hb
        go_enter Try.func25, Try.ntmps25
        go_wp2_with fail
        go_ret2
        exact ⟨rfl, rfl⟩

theorem rop_any (w : World) (r : Nat) (S : Dk.St) (G : Nat → Prop) (h : RDAt w r S G) :
    Calls Try.prog 48 #[ptr r 0] w fun e w' => e = .returned (.int .i64 (Dk.op S).1) ∧ RTurned w w' r (Dk.op S).2 G := by
  obtain ⟨lo, hc, hl, hg⟩ := h.cells
  obtain ⟨-, c34, c35⟩ := diskC_rest h.ok lo
  have c34 := cells_at hc 34 _ c34
  have c35 := cells_at hc 35 _ c35
  have f34 := cells_free hc 34
  have f35 := cells_free hc 35
  obtain ⟨-, g34, g35⟩ := diskC_set h.ok.nowL h.ok.sureL lo
  have hlf := h.ok.left
  have hOK := (op_ok h.ok).1
  have H := Lib.hid h
  have HC := Lib.hid hc
  have HL := Lib.hid hl
  have HGG := Lib.hid hg
  unfold Dk.op at hOK ⊢
  unfold ptr
  by_cases h0 : S.left = 0
  · rw [if_pos h0] at hOK ⊢
    rw [h0] at c35
    have HG := Lib.hid g34
    have HOK := Lib.hid hOK
    clear h hc hl g34 g35 hOK h0 hlf hg
    go_enter Try.func48, Try.ntmps48
    go_wp2_with fail
    go_ret
    exact ⟨rfl, H.out.set HC.out HL.out HGG.out (Only.setCell _ _ ⟨r, 34, none⟩ _ rfl) (by rw [cells_set HC.out, HG.out true]) HOK.out rfl⟩
  · rw [if_neg h0] at hOK ⊢
    have hz : (S.left == 0) = false := by simpa using h0
    by_cases h1 : 0 < S.left
    · rw [if_pos h1] at hOK ⊢
      have hd : decide (0 < S.left) = true := by simpa using h1
      have HG := Lib.hid g35
      have HOK := Lib.hid hOK
      clear h hc hl g34 g35 hOK h0 hg
      go_enter Try.func48, Try.ntmps48
      go_wp2_with fail
      go_ret
      exact ⟨rfl, H.out.set HC.out HL.out HGG.out (Only.setCell _ _ ⟨r, 35, none⟩ _ rfl) (by rw [cells_set HC.out, HG.out]) HOK.out rfl⟩
    · rw [if_neg h1] at hOK ⊢
      have hd : decide (0 < S.left) = false := by simpa using h1
      clear h hc hl g34 g35 hOK h0 hg
      go_enter Try.func48, Try.ntmps48
      go_wp2_with fail
      go_ret
      exact ⟨rfl, RTurned.self H.out⟩

end Go.Proofs.Ytdnjmihalmhddaa
