/-
  Read walked.
-/
import Derived.Test.YtgoglcggnmfapaaPipeRefB
import Derived.Deep.RegionLaw
import Derived.BigRegion
namespace Go.Proofs.Ytgoglcggnmfapaa
open Go.RowKit Go.Conc

def ofNums : List Int → List (Int × Int × Int)
  | a :: b :: c :: r => (a, b, c) :: ofNums r
  | _ => []
theorem recNums_of (n : Nat) : ∀ l : List Int, l.length = 3 * n → recNums (ofNums l) = l ∧ (ofNums l).length = n := by
  induction n with
  | zero => intro l h; obtain rfl : l = [] := List.eq_nil_of_length_eq_zero (by omega); exact ⟨rfl, rfl⟩
  | succ n ih =>
    intro l h
    match l, h with
    | a :: b :: c :: r, h =>
      obtain ⟨h1, h2⟩ := ih r (by simp only [List.length_cons] at h; omega)
      refine ⟨?_, ?_⟩
      · show [a, b, c] ++ recNums (ofNums r) = _
        rw [h1]; rfl
      · show (ofNums r).length + 1 = n + 1
        rw [h2]
    | [], h => simp at h
    | [_], h => simp at h; omega
    | [_, _], h => simp at h; omega
theorem ofNums_rec (l : List (Int × Int × Int)) : ofNums (recNums l) = l := by
  induction l with
  | nil => rfl
  | cons r l ih =>
    show ofNums (r.1 :: r.2.1 :: r.2.2 :: recNums l) = _
    unfold ofNums
    rw [ih]
theorem ofNums_at (k : Nat) : ∀ (l : List Int) (a b c : Int), l[3 * k]? = some a → l[3 * k + 1]? = some b → l[3 * k + 2]? = some c → (ofNums l)[k]? = some (a, b, c) := by
  induction k with
  | zero =>
    intro l a b c ha hb hc
    match l, ha, hb, hc with
    | x :: y :: z :: r, ha, hb, hc =>
      simp at ha hb hc
      subst ha; subst hb; subst hc
      rfl
    | [], _, _, hc => simp at hc
    | [_], _, _, hc => simp at hc
    | [_, _], _, _, hc => simp at hc
  | succ k ih =>
    intro l a b c ha hb hc
    match l, ha, hb, hc with
    | x :: y :: z :: r, ha, hb, hc =>
      show (ofNums r)[k]? = _
      refine ih r a b c ?_ ?_ ?_
      · rw [show 3 * (k + 1) = 3 * k + 1 + 1 + 1 by omega] at ha; simpa using ha
      · rw [show 3 * (k + 1) + 1 = 3 * k + 1 + 1 + 1 + 1 by omega] at hb; simpa using hb
      · rw [show 3 * (k + 1) + 2 = 3 * k + 2 + 1 + 1 + 1 by omega] at hc; simpa using hc
    | [], _, _, hc => simp at hc
    | [_], _, _, hc => rw [show 3 * (k + 1) + 2 = 3 * k + 5 by omega] at hc; simp at hc
    | [_, _], _, _, hc => rw [show 3 * (k + 1) + 2 = 3 * k + 5 by omega] at hc; simp at hc

/-- Three numbers at least, three for each record, as many records as the third one says. -/
def formed (l : List Int) : Prop := 3 ≤ l.length ∧ l.length % 3 = 0 ∧ l[2]? = some ((l.length / 3 : Nat) - 1 : Int)
instance (l : List Int) : Decidable (formed l) := by unfold formed; exact inferInstance
def msgOf (l : List Int) : MsgP := ⟨(l[0]?).getD 0, (l[1]?).getD 0, ofNums (l.drop 3)⟩
def readP (s : List UInt8) : Option MsgP := if (Cl.nums s).2 = 0 ∧ formed (Cl.nums s).1 ∧ mayB (msgOf (Cl.nums s).1) = true then some (msgOf (Cl.nums s).1) else none

theorem msgNums_of (l : List Int) (h : formed l) : msgNums (msgOf l) = l := by
  obtain ⟨h1, h2, h3⟩ := h
  match l, h1 with
  | a :: b :: c :: r, _ =>
    have hr : r.length = 3 * (r.length / 3) := by simp only [List.length_cons] at h2; omega
    obtain ⟨g1, g2⟩ := recNums_of (r.length / 3) r hr
    unfold msgNums msgOf
    simp only [List.getElem?_cons_zero, List.getElem?_cons_succ, Option.getD_some, List.drop_succ_cons, List.drop_zero, g1, g2, List.length_cons] at h3 ⊢
    simp only [Option.some.injEq] at h3
    subst h3
    have e : ((r.length / 3 : Nat) : Int) = (((r.length + 1 + 1 + 1) / 3 : Nat) : Int) - 1 := by omega
    rw [e]
    rfl

theorem formed_msg (m : MsgP) : formed (msgNums m) ∧ msgOf (msgNums m) = m := by
  have hl : (msgNums m).length = 3 + 3 * m.l.length := by unfold msgNums; rw [List.length_append, recNums_len]; rfl
  refine ⟨⟨by omega, by omega, ?_⟩, ?_⟩
  · rw [hl]
    show some (m.l.length : Int) = _
    congr 1
    omega
  · unfold msgOf msgNums
    show (⟨m.seq, m.bar, ofNums (recNums m.l)⟩ : MsgP) = m
    rw [ofNums_rec]

theorem readP_back (s : List UInt8) (m : MsgP) (h : readP s = some m) : msgBytes m = s ∧ mayB m = true ∧ In64M m := by
  unfold readP at h
  split at h
  · rename_i hc
    obtain ⟨h1, h2, h3⟩ := hc
    simp only [Option.some.injEq] at h
    subst h
    obtain ⟨g1, g2⟩ := Cl.nums_back s (Cl.nums s).1 (Prod.ext rfl h1)
    have e := msgNums_of _ h2
    refine ⟨by unfold msgBytes; rw [e, g1], h3, ?_⟩
    have hin : ∀ n ∈ msgNums (msgOf (Cl.nums s).1), Cl.In64 n := by rw [e]; exact g2
    unfold msgNums at hin
    refine ⟨hin _ (by simp), hin _ (by simp), fun r hr => ⟨hin _ ?_, hin _ ?_, hin _ ?_⟩⟩
    all_goals
      refine List.mem_append_right _ ?_
      unfold recNums
      exact List.mem_flatMap.2 ⟨r, hr, by simp⟩
  · simp at h

theorem in64_nums (m : MsgP) (hi : In64M m) (hn : m.l.length ≤ 4000) : ∀ n ∈ msgNums m, Cl.In64 n := by
  intro n hn'
  unfold msgNums recNums at hn'
  simp only [List.mem_append, List.mem_cons, List.not_mem_nil, or_false, List.mem_flatMap] at hn'
  rcases hn' with (rfl | rfl | rfl) | ⟨r, hr', rfl | rfl | rfl⟩
  · exact hi.1
  · exact hi.2.1
  · unfold Cl.In64; omega
  · exact (hi.2.2 r hr').1
  · exact (hi.2.2 r hr').2.1
  · exact (hi.2.2 r hr').2.2

theorem readP_bytes (m : MsgP) (hm : mayB m = true) (hi : In64M m) (hn : m.l.length ≤ 4000) : readP (msgBytes m) = some m := by
  have h := Cl.nums_put (msgNums m) (in64_nums m hi hn)
  obtain ⟨g1, g2⟩ := formed_msg m
  unfold readP msgBytes
  rw [h]
  simp only
  rw [g2]
  simp [g1, hm]


theorem infoRec : (Try.prog.info? 50).map (fun i => (i.zero, i.size, i.bytes)) = some (some (.agg #[.int .i64 0, .int .i64 0, .int .i64 0]), 3, 24) := by kernel_rfl

theorem cell_set_far {w : World} {b i k j : Nat} {u : Value} (h : k ≠ b) : (w.setCell ⟨b, i, none⟩ u).cell? ⟨k, j, none⟩ = w.cell? ⟨k, j, none⟩ := World.cell?_of_block (Below.heap_setCell _ _ _ _ (by exact h))
theorem own_set {w : World} {base : Nat} {e : TypeId} {size : Nat} {v : Value} {n : Nat} {xs : List Value} (h : w.ownsRow base e size v n xs) {b : Nat} (hb : b < base) (i : Nat) (u : Value) : (w.setCell ⟨b, i, none⟩ u).ownsRow base e size v n xs := by
  obtain ⟨h1, h2⟩ := h
  refine ⟨h1, ?_⟩
  rcases h2 with h2 | ⟨g, cap, cur, hv, hg, hc, h3⟩
  · exact .inl h2
  · refine .inr ⟨g, cap, cur, hv, hg, ?_, h3⟩
    rw [Below.heap_setCell _ _ _ _ (by show g ≠ b; omega)]; exact hc
theorem read_step {w1 wr W0 w3 : World} {B : Nat} {e : TypeId} {size : Nat} {v : Value} {n : Nat} {xs : List Value} (hB : B < wr.heap.size) (hb : Below B w1 wr) (ho : wr.ownsRow (B + 1) e size v n xs) (hg : W0.grownBy w3 v.ownBlock) (hs : wr.heap.size ≤ W0.heap.size) (h0 : Below wr.heap.size wr W0) :
    Below B w1 w3 ∧ w3.heap[B]? = wr.heap[B]? ∧ B < w3.heap.size := by
  have hn := own_far ho (show B < B + 1 by omega)
  refine ⟨?_, ?_, ?_⟩
  · exact (hb.trans (h0.mono (by omega))).grown hg (by omega) (fun k hk => by have := (ho.lt k hk).1; omega)
  · rw [hg.block B (by omega) (Ne.symm hn), h0.block B hB]
  · have := hg.size; omega

/-- What Read answers. -/
def ReadSays (r : Option MsgP) (w : World) (e : Ending) (w' : World) : Prop :=
  (r = none → e = .returned (.tuple #[zeroMsg, .int .i64 21])) ∧ (∀ m, r = some m → ∃ lv, e = .returned (.tuple #[.agg #[.int .i64 m.seq, .int .i64 m.bar, lv], .int .i64 0]) ∧ Reads w' lv m.l.length (recCells m.l)) ∧ Below w.heap.size w w'

set_option maxHeartbeats 2000000 in
theorem pread_form (s : ByteArray) (l : List Int) (x : Int) (w : World) (hs : s.size ≤ 1000000) (h : Cl.nums s.data.toList = (l, x)) (hb : ¬ (x = 0 ∧ formed l)) :
    Calls Try.prog 25 #[.string s] w fun e w' => e = .returned (.tuple #[zeroMsg, .int .i64 21]) ∧ Below w.heap.size w w' := by
  have HN := Lib.hid h
  clear h
  go_enter Try.func25, Try.ntmps25
  go_wp2_with fail
  refine (numbers_says s l x _ hs HN.out).mono ?_
  rintro e w1 ⟨v, rfl, hr1, hb1⟩
  have hres : w1.heap[w.heap.size]? = some (.cells #[.int .i64 0, .int .i64 0, .slice none 0 0] 33) := (hb1.block _ (by simp)).trans (heap_alloc_new w _)
  have f0 := cells_at hres 0 _ rfl
  have f1 := cells_at hres 1 _ rfl
  have f2 := cells_at hres 2 _ rfl
  have z0 := cells_free hres 0
  have z1 := cells_free hres 1
  have z2 := cells_free hres 2
  have HRES := Lib.hid hres
  have HB1 := Lib.hid (bel_trans (bel_alloc w _) hb1)
  have hlen := hr1.lenLe
  unfold maxLen at hlen
  have hfin : ∀ W, W = (((w1.setCell ⟨w.heap.size, 0, none⟩ (.int .i64 0)).setCell ⟨w.heap.size, 1, none⟩ (.int .i64 0)).setCell ⟨w.heap.size, 2, none⟩ (.slice none 0 0)) → W.cell? ⟨w.heap.size, 0, none⟩ = some (.int .i64 0) ∧ W.cell? ⟨w.heap.size, 1, none⟩ = some (.int .i64 0) ∧ W.cell? ⟨w.heap.size, 2, none⟩ = some (.slice none 0 0) ∧ Below w.heap.size w W := fun W e => by
    subst e
    have hr := cells_set3 HRES.out (.int .i64 0) (.int .i64 0) (.slice none 0 0)
    exact ⟨cells_at hr 0 _ rfl, cells_at hr 1 _ rfl, cells_at hr 2 _ rfl, below_set3 HB1.out w.heap.size (Nat.le_refl _) _ _ _⟩
  have HFIN := Lib.hid hfin
  clear hres hb1 hfin
  by_cases hx : x = 0
  · subst hx
    by_cases h3 : l.length < 3
    · obtain ⟨a, c, rfl⟩ := hr1.shape
      have hd : decide ((l.length : Int) < 3) = true := by simp; omega
      clear hr1 h3 hb
      go_wp2_with fail
      obtain ⟨q0, q1, q2, hbe⟩ := HFIN.out _ rfl
      refine bodyPost_ret (v := .tuple #[zeroMsg, .int .i64 21]) (by simp [results, Try.results25, go_sem, q0, q1, q2, zeroMsg]) rfl ⟨rfl, hbe⟩
    · have hd : decide ((l.length : Int) < 3) = false := by simp; omega
      obtain ⟨b, o, c, rfl, hcap, _, _, hcells⟩ := hr1.some (by omega)
      by_cases hm : l.length % 3 = 0
      · obtain ⟨y, hy⟩ : ∃ y, l[2]? = some y := ⟨l[2], by simp⟩
        have g2 := hcells 2 _ (ints_at hy)
        have hne : y ≠ ((l.length / 3 : Nat) : Int) - 1 := fun e => hb ⟨rfl, by omega, hm, by rw [hy, e]⟩
        have hm3 : (l.length : Int) % 3 = 0 := by omega
        have h2l : (2 : Int) < (l.length : Int) := by omega
        have hd2 : (y != (l.length : Int) / 3 - 1) = true := by rw [bne_iff_ne]; intro e; exact hne (by omega)
        clear hcells hr1 hb hm hy h3 hne
        go_wp2_with fail
        obtain ⟨q0, q1, q2, hbe⟩ := HFIN.out _ rfl
        refine bodyPost_ret (v := .tuple #[zeroMsg, .int .i64 21]) (by simp [results, Try.results25, go_sem, q0, q1, q2, zeroMsg]) rfl ⟨rfl, hbe⟩
      · have hm3 : ((l.length : Int) % 3 != 0) = true := by rw [bne_iff_ne]; omega
        clear hcells hr1 hb hm h3
        go_wp2_with fail
        obtain ⟨q0, q1, q2, hbe⟩ := HFIN.out _ rfl
        refine bodyPost_ret (v := .tuple #[zeroMsg, .int .i64 21]) (by simp [results, Try.results25, go_sem, q0, q1, q2, zeroMsg]) rfl ⟨rfl, hbe⟩
  · have hxb : (x != 0) = true := by simpa using hx
    obtain ⟨a, c, rfl⟩ := hr1.shape
    clear hr1 hb hx
    go_wp2_with fail
    obtain ⟨q0, q1, q2, hbe⟩ := HFIN.out _ rfl
    refine bodyPost_ret (v := .tuple #[zeroMsg, .int .i64 21]) (by simp [results, Try.results25, go_sem, q0, q1, q2, zeroMsg]) rfl ⟨rfl, hbe⟩


set_option maxHeartbeats 4000000 in
set_option maxRecDepth 100000 in
theorem pread_ok (s : ByteArray) (l : List Int) (w : World) (hs : s.size ≤ 1000000) (h : Cl.nums s.data.toList = (l, 0)) (hf : formed l) (hl : l.length ≤ 1000000) :
    Calls Try.prog 25 #[.string s] w (ReadSays (readP s.data.toList) w) := by
  obtain ⟨i0, hi0, hz0, hz1, hz2⟩ := info_parts infoRec
  have HN := Lib.hid h
  have hread : readP s.data.toList = if mayB (msgOf l) = true then some (msgOf l) else none := by
    unfold readP; rw [h]; simp [hf]
  have HREAD := Lib.hid hread
  clear h hread
  go_enter Try.func25, Try.ntmps25
  go_wp2_with fail
  refine (numbers_says s l 0 _ hs HN.out).mono ?_
  rintro e w1 ⟨v, rfl, hr1, hb1⟩
  have hres : w1.heap[w.heap.size]? = some (.cells #[.int .i64 0, .int .i64 0, .slice none 0 0] 33) := (hb1.block _ (by simp)).trans (heap_alloc_new w _)
  have HB1 := Lib.hid (bel_trans (bel_alloc w _) hb1)
  have hrs := (Array.getElem?_eq_some_iff.1 hres).1
  obtain ⟨h3, hm, hy⟩ := hf
  obtain ⟨b, o, c, rfl, hcap, hcm, hbl, hcells⟩ := hr1.some (by omega)
  have hcell : ∀ i n, l[i]? = some n → w1.cell? ⟨b, o + i, none⟩ = some (.int .i64 n) := fun i n hi => hcells i _ (ints_at hi)
  have HCELL := Lib.hid hcell
  have g2 := hcell 2 _ hy
  obtain ⟨y0, hy0⟩ : ∃ y, l[0]? = some y := ⟨l[0], by simp⟩
  obtain ⟨y1, hy1⟩ : ∃ y, l[1]? = some y := ⟨l[1], by simp⟩
  have g0 := hcell 0 _ hy0
  have g1 := hcell 1 _ hy1
  rw [Nat.add_zero] at g0
  have hd : decide ((l.length : Int) < 3) = false := by simp; omega
  have hm3 : (l.length : Int) % 3 = 0 := by omega
  have hl0 : 0 < l.length := by omega
  have hl1 : (1 : Int) < (l.length : Int) := by omega
  have h2l : (2 : Int) < (l.length : Int) := by omega
  have e3 : ((l.length / 3 : Nat) : Int) - 1 = (l.length : Int) / 3 - 1 := by omega
  rw [e3] at g2
  have HRES := Lib.hid hres
  have HM := Lib.hid hm
  have HY0 := Lib.hid hy0
  have HY1 := Lib.hid hy1
  clear hcells hr1 hy h3 hcell hy0 hy1 hres hb1 hm e3
  go_wp2_with fail
  go_region_held3 (fun w' => w'.cell? ⟨b, o, none⟩ = some (.int .i64 y0) ∧ w'.cell? ⟨b, o + 1, none⟩ = some (.int .i64 y1)) (first | go_keep) (first | fail)
  obtain ⟨w2, hw2⟩ : ∃ w2, (w1.alloc (Obj.cells #[Value.int IntKind.i64 y0, Value.int IntKind.i64 y1, Value.slice none 0 0] 33)).drew = w2 := ⟨_, rfl⟩
  have hmb2 : w2.heap[w1.heap.size]? = some (.cells #[.int .i64 y0, .int .i64 y1, .slice none 0 0] 33) := by rw [← hw2]; exact heap_alloc_new w1 _
  have hbb2 : Below w1.heap.size w1 w2 := by rw [← hw2]; exact bel_trans (bel_alloc _ _) (bel_drew _)
  have hsz2 : w2.heap.size = w1.heap.size + 1 := by rw [← hw2]; simp
  rw [hw2]
  have HMB2 := Lib.hid hmb2
  have HBB2 := Lib.hid hbb2
  have HS2 := Lib.hid hsz2
  clear hw2 hmb2 hbb2 hsz2 g0 g1 g2
  go_wp2_with fail
  have HR3 := Lib.hid (show 3 ≤ l.length by omega)
  clear hd hm3 hl0 hl1 h2l
  go_loopw [7] (fun i wr => ∃ (k : Nat) (lv : Value), 3 + 3 * k ≤ l.length ∧ i = .int .i64 ((3 + 3 * k : Nat) : Int) ∧ Below w1.heap.size w1 wr ∧ w1.heap.size < wr.heap.size ∧ wr.heap[w1.heap.size]? = some (.cells #[.int .i64 y0, .int .i64 y1, lv] 33) ∧ wr.ownsRow (w1.heap.size + 1) 50 3 lv k (recCells ((ofNums (l.drop 3)).take k))) (fun i _ => l.length + 3 - (intOf i).toNat)
  case atStart =>
    refine ⟨0, .slice none 0 0, by have := HR3.out; omega, rfl, HBB2.out, by have := HS2.out; omega, HMB2.out, ?_⟩
    exact World.ownsRow_nil _ _ _ _
  case round =>
    obtain ⟨k, lv, hk, rfl, hbw, hsw, hmb, hown⟩ := hrel
    have m2 := cells_at hmb 2 _ rfl
    have mf2 := cells_free hmb 2
    have HMBW := Lib.hid hmb
    have HBW := Lib.hid hbw
    by_cases hlt : 3 + 3 * k < l.length
    · have hk3 : 3 + 3 * k + 2 < l.length := by have := HM.out; omega
      obtain ⟨x0, hx0⟩ : ∃ r, l[3 + 3 * k]? = some r := ⟨l[3 + 3 * k], by simp⟩
      obtain ⟨x1, hx1⟩ : ∃ r, l[3 + 3 * k + 1]? = some r := ⟨_, List.getElem?_eq_getElem (show 3 + 3 * k + 1 < l.length by omega)⟩
      obtain ⟨x2, hx2⟩ : ∃ r, l[3 + 3 * k + 2]? = some r := ⟨_, List.getElem?_eq_getElem (show 3 + 3 * k + 2 < l.length by omega)⟩
      have g0 := (hbw.cell (p := ⟨b, o + (3 + 3 * k), none⟩) hbl).trans (HCELL.out _ _ hx0)
      have g1 := (hbw.cell (p := ⟨b, o + (3 + 3 * k + 1), none⟩) hbl).trans (HCELL.out _ _ hx1)
      have g2 := (hbw.cell (p := ⟨b, o + (3 + 3 * k + 2), none⟩) hbl).trans (HCELL.out _ _ hx2)
      have HX0 := Lib.hid hx0
      have HX1 := Lib.hid hx1
      have HX2 := Lib.hid hx2
      have hlv : (∃ a c, lv = .slice a k c) := (Reads.own hown).shape
      have ak := own_far hown (show b < w1.heap.size + 1 by omega)
      have am := own_far hown (show w1.heap.size < w1.heap.size + 1 by omega)
      have hkl : k ≤ 1000000 := by omega
      obtain ⟨n, hn⟩ : ∃ n, 3 + 3 * k = n := ⟨_, rfl⟩
      have HN3 := Lib.hid hn
      rw [hn] at hk3 hlt g0 g1 g2 ⊢
      have e1 : IntKind.i64.wrap ((n : Int) + 1) = (n : Int) + 1 := IntWalk.i64_in _ (by omega)
      have e2 : IntKind.i64.wrap ((n : Int) + 2) = (n : Int) + 2 := IntWalk.i64_in _ (by omega)
      have hi0' : (0 : Int) ≤ (n : Int) := Int.natCast_nonneg _
      have hi1 : (n : Int) < (l.length : Int) := by omega
      have hi2 : (n : Int) + 1 < (l.length : Int) := by omega
      have hi3 : (n : Int) + 2 < (l.length : Int) := by omega
      rw [show n + 2 = ((n : Int) + 2).toNat by omega] at g2
      have hi4 : (0 : Int) ≤ (n : Int) + 1 := by omega
      have hi5 : (0 : Int) ≤ (n : Int) + 2 := by omega
      have hx1 : b < wr.heap.size := by omega
      have HOWN := Lib.hid hown
      clear hown hbw hmb hx0 hx1 hx2 hn
      simp only [List.getElem_toArray, List.getElem_cons_succ, List.getElem_cons_zero] at m2
      go_wp2_with fail
      go_region_law (first
          | (refine step_append_lies _ (by rfl) _ _ _ (by rfl) (w1.heap.size + 1) 50 i0 _ 3 24 Try.underlying31 hi0 hz0 hz1 hz2 rfl (by omega) _ k _ (by rfl) ((HOWN.out.alloc _).drew) ⟨wr.heap.size, 0, none⟩ 1 1 [.int .i64 x0, .int .i64 x1, .int .i64 x2] (by rfl) (by rfl) (World.news_of_block (cs := #[.int .i64 x0, .int .i64 x1, .int .i64 x2]) (t := 50) (fr := (0, 0)) (heap_alloc_new wr _)) (by simp [Value.oneCell']) (by omega) (by unfold maxLen; omega) (by omega) (by simp; omega) (wr.heap.size + 1) (by simp) ?_; intro gg cap w3 hown1 hgrow hat hltg; obtain ⟨hb3, q3, hs3⟩ := read_step hsw HBW.out HOWN.out hgrow (by simp) (bel_trans (bel_alloc _ _) (bel_drew _)); have q2 := cells_at (q3.trans HMBW.out) 2 _ rfl; have qf := cells_free (q3.trans HMBW.out) 2; simp only [List.getElem_toArray, List.getElem_cons_succ, List.getElem_cons_zero] at q2)
          | (refine step_append_lies _ (by rfl) _ _ _ (by rfl) (w1.heap.size + 1) 50 i0 _ 3 24 Try.underlying31 hi0 hz0 hz1 hz2 rfl (by omega) _ k _ (by rfl) (HOWN.out.drew.alloc _) ⟨wr.heap.size, 0, none⟩ 1 1 [.int .i64 x0, .int .i64 x1, .int .i64 x2] (by rfl) (by rfl) (World.news_of_block (cs := #[.int .i64 x0, .int .i64 x1, .int .i64 x2]) (t := 50) (fr := (0, 0)) (heap_alloc_new wr.drew _)) (by simp [Value.oneCell']) (by omega) (by unfold maxLen; omega) (by omega) (by simp; omega) (wr.heap.size + 1) (by simp) ?_; intro gg cap w3 hown1 hgrow hat hltg; obtain ⟨hb3, q3, hs3⟩ := read_step hsw HBW.out HOWN.out hgrow (by simp) (bel_trans (bel_drew _) (bel_alloc _ _)); have q2 := cells_at (q3.trans HMBW.out) 2 _ rfl; have qf := cells_free (q3.trans HMBW.out) 2; simp only [List.getElem_toArray, List.getElem_cons_succ, List.getElem_cons_zero] at q2)
          | (refine step_append_lies _ (by rfl) _ _ _ (by rfl) (w1.heap.size + 1) 50 i0 _ 3 24 Try.underlying31 hi0 hz0 hz1 hz2 rfl (by omega) _ k _ (by rfl) (HOWN.out.drew.alloc _).drew ⟨wr.heap.size, 0, none⟩ 1 1 [.int .i64 x0, .int .i64 x1, .int .i64 x2] (by rfl) (by rfl) (World.news_of_block (cs := #[.int .i64 x0, .int .i64 x1, .int .i64 x2]) (t := 50) (fr := (0, 0)) (heap_alloc_new wr.drew _)) (by simp [Value.oneCell']) (by omega) (by unfold maxLen; omega) (by omega) (by simp; omega) (wr.heap.size + 1) (by simp) ?_; intro gg cap w3 hown1 hgrow hat hltg; obtain ⟨hb3, q3, hs3⟩ := read_step hsw HBW.out HOWN.out hgrow (by simp) (bel_trans (bel_trans (bel_drew _) (bel_alloc _ _)) (bel_drew _)); have q2 := cells_at (q3.trans HMBW.out) 2 _ rfl; have qf := cells_free (q3.trans HMBW.out) 2; simp only [List.getElem_toArray, List.getElem_cons_succ, List.getElem_cons_zero] at q2))
      all_goals
        go_wp2
        go_roundw
        case rel =>
          refine ⟨k + 1, .slice (some ⟨gg, 0, none⟩) (k + 1) cap, by have := HN3.out; omega, ?_, hb3.setCell (p := ⟨w1.heap.size, 2, none⟩) (Nat.le_refl _) _, by simpa [World.setCell] using hs3, ?_, ?_⟩
          · have e0 : IntKind.i64.wrap ((n : Int) + 3) = (n : Int) + 3 := IntWalk.i64_in _ (by omega)
            have e4 : ((3 + 3 * (k + 1) : Nat) : Int) = (n : Int) + 3 := by have := HN3.out; omega
            rw [e4]
            first | done | rfl | (rw [e0]; done) | (rw [e0]; rfl)
          · have := cells_set (q3.trans HMBW.out) 2 (.slice (some ⟨gg, 0, none⟩) (k + 1) cap)
            simpa using this
          · refine own_set ?_ (by omega) _ _
            have hat3 : (ofNums (l.drop 3))[k]? = some (x0, x1, x2) := ofNums_at k (l.drop 3) x0 x1 x2 (by rw [List.getElem?_drop]; exact HX0.out) (by rw [List.getElem?_drop, ← Nat.add_assoc]; exact HX1.out) (by rw [List.getElem?_drop, ← Nat.add_assoc]; exact HX2.out)
            rw [take_snoc_of _ k _ hat3, ← recCells_snoc]
            exact hown1
        case measure => simp [intOf]; omega
    · have hkl : 3 + 3 * k = l.length := by omega
      have hlen3 : (l.drop 3).length = 3 * k := by rw [List.length_drop]; omega
      obtain ⟨_, hol⟩ := recNums_of k (l.drop 3) hlen3
      have hmo : msgOf l = ⟨y0, y1, ofNums (l.drop 3)⟩ := by unfold msgOf; rw [HY0.out, HY1.out]; rfl
      rw [List.take_of_length_le (by omega)] at hown
      obtain ⟨a, c2, rfl⟩ := (Reads.own hown).shape
      have hr4 : Reads wr (.slice a k c2) (msgOf l).l.length (recCells (msgOf l).l) := by rw [hmo]; show Reads wr _ (ofNums (l.drop 3)).length _; rw [hol]; exact Reads.own hown
      have HR4 := Lib.hid hr4
      have HOWN := Lib.hid hown
      have hmay := may_any (msgOf l) _ wr hr4
      have hmo2 : (msgOf l).seq = y0 ∧ (msgOf l).bar = y1 ∧ (msgOf l).l = ofNums (l.drop 3) := by rw [hmo]; exact ⟨rfl, rfl, rfl⟩
      rw [hmo2.1, hmo2.2.1] at hmay
      have HMAY := Lib.hid hmay
      have m0 := cells_at hmb 0 _ rfl
      have m1 := cells_at hmb 1 _ rfl
      simp only [List.getElem_toArray, List.getElem_cons_succ, List.getElem_cons_zero] at m0 m1 m2
      have hd : decide (((3 + 3 * k : Nat) : Int) < (l.length : Int)) = false := by simp; omega
      have HMO := Lib.hid hmo2
      have HOL := Lib.hid hol
      have hkl2 : k ≤ 1000000 := by omega
      clear hr4 hmay hown hmb hbw hol hmo2 hmo hlen3 mf2
      obtain ⟨n, hn⟩ : ∃ n, 3 + 3 * k = n := ⟨_, rfl⟩
      rw [hn] at hd hk hlt hkl ⊢
      clear hn
      go_wp2_with fail
      refine HMAY.out.mono ?_
      rintro e w4 ⟨rfl, hb4⟩
      have hres : w4.heap[w.heap.size]? = some (.cells #[.int .i64 0, .int .i64 0, .slice none 0 0] 33) := (hb4.block _ (by omega)).trans ((HBW.out.block _ hrs).trans HRES.out)
      have hbox : w4.heap[w1.heap.size]? = some (.cells #[.int .i64 y0, .int .i64 y1, .slice a k c2] 33) := (hb4.block _ hsw).trans HMBW.out
      have hown4 := own_below HOWN.out hb4
      have hbel4 : Below w.heap.size w w4 := bel_trans HB1.out (HBW.out.trans (hb4.mono (by omega)))
      have f0 := cells_at hres 0 _ rfl
      have f1 := cells_at hres 1 _ rfl
      have f2 := cells_at hres 2 _ rfl
      have z0 := cells_free hres 0
      have z1 := cells_free hres 1
      have z2 := cells_free hres 2
      have m0 := cells_at hbox 0 _ rfl
      have m1 := cells_at hbox 1 _ rfl
      have m2 := cells_at hbox 2 _ rfl
      simp only [List.getElem_toArray, List.getElem_cons_succ, List.getElem_cons_zero] at m0 m1 m2 f0 f1 f2
      have HRS4 := Lib.hid hres
      have HBX := Lib.hid hbox
      have HOWN4 := Lib.hid hown4
      have HBEL4 := Lib.hid hbel4
      clear hres hbox hown4 hbel4 hb4
      cases hmb : mayB (msgOf l) with
      | false =>
        rw [hmb] at HREAD
        go_wp2_with fail
        have hr := cells_set3 HRS4.out (.int .i64 0) (.int .i64 0) (.slice none 0 0)
        have q0 := cells_at hr 0 _ rfl
        have q1 := cells_at hr 1 _ rfl
        have q2 := cells_at hr 2 _ rfl
        simp only [List.getElem_toArray, List.getElem_cons_succ, List.getElem_cons_zero] at q0 q1 q2
        refine bodyPost_ret (v := .tuple #[zeroMsg, .int .i64 21]) (by simp [results, Try.results25, go_sem, q0, q1, q2, zeroMsg]) rfl ⟨fun _ => rfl, fun m hm => ?_, below_set3 HBEL4.out _ (Nat.le_refl _) _ _ _⟩
        rw [HREAD.out] at hm; simp at hm
      | true =>
        rw [hmb] at HREAD
        go_wp2_with fail
        have hr := cells_set3 HRS4.out (.int .i64 y0) (.int .i64 y1) (.slice a k c2)
        have q0 := cells_at hr 0 _ rfl
        have q1 := cells_at hr 1 _ rfl
        have q2 := cells_at hr 2 _ rfl
        simp only [List.getElem_toArray, List.getElem_cons_succ, List.getElem_cons_zero] at q0 q1 q2
        refine bodyPost_ret (v := .tuple #[.agg #[.int .i64 y0, .int .i64 y1, .slice a k c2], .int .i64 0]) (by simp [results, Try.results25, go_sem, q0, q1, q2]) rfl ⟨fun h => ?_, fun m hm => ?_, below_set3 HBEL4.out _ (Nat.le_refl _) _ _ _⟩
        · rw [HREAD.out] at h; simp at h
        · rw [HREAD.out] at hm
          simp only [if_true, Option.some.injEq] at hm
          subst hm
          rw [HMO.out.1, HMO.out.2.1, HMO.out.2.2, HOL.out]
          exact ⟨_, rfl, Reads.own (own_set (own_set (own_set HOWN4.out (by omega) _ _) (by omega) _ _) (by omega) _ _)⟩

end Go.Proofs.Ytgoglcggnmfapaa
