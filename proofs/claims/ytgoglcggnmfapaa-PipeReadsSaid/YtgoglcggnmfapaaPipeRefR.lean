/-
  The reference's Read walked.
-/
import Derived.Test.YtgoglcggnmfapaaPipeRead
import Derived.Deep.RegionLaw
import Derived.BigRegion
namespace Go.Proofs.Ytgoglcggnmfapaa
open Go.RowKit Go.Conc

theorem nums_len_le2 (s : List UInt8) : (Cl.nums s).1.length ≤ s.length := by
  have := Cl.numsA_len (s.length + 1) s []
  simpa [Cl.nums] using this

theorem ofNums_len (n : Nat) : ∀ l : List Int, l.length ≤ n → (ofNums l).length = l.length / 3 := by
  induction n with
  | zero => intro l h; obtain rfl : l = [] := List.eq_nil_of_length_eq_zero (by omega); rfl
  | succ n ih =>
    intro l h
    match l, h with
    | a :: b :: c :: r, h =>
      have := ih r (by simp only [List.length_cons] at h; omega)
      show (ofNums r).length + 1 = _
      rw [this]
      simp only [List.length_cons]
      omega
    | [], h => rfl
    | [_], h => simp [ofNums]
    | [_, _], h => simp [ofNums]
theorem ofNums_in (n : Nat) : ∀ l : List Int, l.length ≤ n → (∀ x ∈ l, Cl.In64 x) → ∀ r ∈ ofNums l, Cl.In64 r.1 ∧ Cl.In64 r.2.1 ∧ Cl.In64 r.2.2 := by
  induction n with
  | zero => intro l h _ r hr; obtain rfl : l = [] := List.eq_nil_of_length_eq_zero (by omega); cases hr
  | succ n ih =>
    intro l h hin r hr
    match l, h, hin, hr with
    | a :: b :: c :: q, h, hin, hr =>
      rcases List.mem_cons.1 hr with rfl | hr
      · exact ⟨hin _ (by simp), hin _ (by simp), hin _ (by simp)⟩
      · exact ih q (by simp only [List.length_cons] at h; omega) (fun x hx => hin x (by simp [hx])) r hr
    | [], _, _, hr => cases hr
    | [_], _, _, hr => cases hr
    | [_, _], _, _, hr => cases hr

theorem readP_not (s : List UInt8) (l : List Int) (h : Cl.nums s = (l, 0)) (hm : mayB (msgOf l) = false ∨ msgBytes (msgOf l) ≠ s) : readP s = none := by
  unfold readP
  rw [h]
  refine if_neg fun hc => ?_
  rcases hm with hm | hm
  · rw [hm] at hc; exact absurd hc.2.2 (by decide)
  · refine hm ?_
    have := (Cl.nums_back s l h).1
    unfold msgBytes
    rw [msgNums_of l hc.2.1]
    exact this
theorem in64_of (l : List Int) (h3 : 3 ≤ l.length) (h : ∀ x ∈ l, Cl.In64 x) : In64M (msgOf l) := by
  match l, h3 with
  | a :: b :: c :: r, _ =>
    refine ⟨h a (by simp), h b (by simp), ?_⟩
    exact ofNums_in r.length r (Nat.le_refl _) (fun x hx => h x (by simp [hx]))

set_option maxHeartbeats 2000000 in
theorem refread_form (s : ByteArray) (l : List Int) (x : Int) (w : World) (hs : s.size ≤ 1000000) (h : Cl.nums s.data.toList = (l, x)) (hb : ¬ (x = 0 ∧ 3 ≤ l.length)) :
    Calls Try.prog 26 #[.string s] w fun e w' => e = .returned (.tuple #[zeroMsg, .int .i64 21]) ∧ Below w.heap.size w w' := by
  have HN := Lib.hid h
  clear h
  go_enter Try.func26, Try.ntmps26
  go_wp2_with fail
  refine (refnumbers_says s l x _ hs HN.out).mono ?_
  rintro e w1 ⟨v, rfl, hr1, hb1⟩
  have hres : w1.heap[w.heap.size]? = some (.cells #[.int .i64 0, .int .i64 0, .slice none 0 0] 33) := (hb1.block _ (by simp)).trans (heap_alloc_new w _)
  have hrs := (Array.getElem?_eq_some_iff.1 hres).1
  have hlen := hr1.lenLe
  unfold maxLen at hlen
  obtain ⟨a, c, rfl⟩ := hr1.shape
  have f0 := cells_at hres 0 _ rfl
  have f1 := cells_at hres 1 _ rfl
  have f2 := cells_at hres 2 _ rfl
  have z0 := cells_free hres 0
  have z1 := cells_free hres 1
  have z2 := cells_free hres 2
  simp only [List.getElem_toArray, List.getElem_cons_succ, List.getElem_cons_zero] at f0 f1 f2
  have HB1 := Lib.hid (bel_trans (bel_alloc w _) hb1)
  have HRES := Lib.hid hres
  clear hres hb1
  by_cases hx : x = 0
  · subst hx
    have hd : decide ((l.length : Int) < 3) = true := by simp; omega
    clear hr1 hb
    go_wp2_with fail
    have hr := cells_set3 HRES.out (.int .i64 0) (.int .i64 0) (.slice none 0 0)
    have hA := ((bel_alloc (((w1.setCell ⟨w.heap.size, 0, none⟩ (.int .i64 0)).setCell ⟨w.heap.size, 1, none⟩ (.int .i64 0)).setCell ⟨w.heap.size, 2, none⟩ (.slice none 0 0)) (.cells #[.int .i64 0, .int .i64 0, .slice none 0 0] 33)).block _ (Array.getElem?_eq_some_iff.1 hr).1).trans hr
    have q0 := cells_at hA 0 _ rfl
    have q1 := cells_at hA 1 _ rfl
    have q2 := cells_at hA 2 _ rfl
    simp only [List.getElem_toArray, List.getElem_cons_succ, List.getElem_cons_zero] at q0 q1 q2
    refine bodyPost_ret (v := .tuple #[zeroMsg, .int .i64 21]) (by simp [results, Try.results26, go_sem, q0, q1, q2, zeroMsg]) rfl ⟨rfl, bel_trans (below_set3 HB1.out w.heap.size (Nat.le_refl _) _ _ _) (bel_alloc _ _)⟩
  · have hxb : (x != 0) = true := by simpa using hx
    clear hr1 hb hx
    go_wp2_with fail
    have hr := cells_set3 HRES.out (.int .i64 0) (.int .i64 0) (.slice none 0 0)
    have hA := ((bel_alloc (((w1.setCell ⟨w.heap.size, 0, none⟩ (.int .i64 0)).setCell ⟨w.heap.size, 1, none⟩ (.int .i64 0)).setCell ⟨w.heap.size, 2, none⟩ (.slice none 0 0)) (.cells #[.int .i64 0, .int .i64 0, .slice none 0 0] 33)).block _ (Array.getElem?_eq_some_iff.1 hr).1).trans hr
    have q0 := cells_at hA 0 _ rfl
    have q1 := cells_at hA 1 _ rfl
    have q2 := cells_at hA 2 _ rfl
    simp only [List.getElem_toArray, List.getElem_cons_succ, List.getElem_cons_zero] at q0 q1 q2
    refine bodyPost_ret (v := .tuple #[zeroMsg, .int .i64 21]) (by simp [results, Try.results26, go_sem, q0, q1, q2, zeroMsg]) rfl ⟨rfl, bel_trans (below_set3 HB1.out w.heap.size (Nat.le_refl _) _ _ _) (bel_alloc _ _)⟩

set_option maxHeartbeats 4000000 in
set_option maxRecDepth 100000 in
theorem refread_ok (s : ByteArray) (l : List Int) (w : World) (hs : s.size ≤ 1000000) (h : Cl.nums s.data.toList = (l, 0)) (h3 : 3 ≤ l.length) (hl : l.length ≤ 12000) :
    Calls Try.prog 26 #[.string s] w (ReadSays (readP s.data.toList) w) := by
  obtain ⟨i0, hi0, hz0, hz1, hz2⟩ := info_parts infoRec
  have HN := Lib.hid h
  have HIN := Lib.hid (in64_of l h3 (Cl.nums_back _ l h).2)
  clear h
  go_enter Try.func26, Try.ntmps26
  go_wp2_with fail
  refine (refnumbers_says s l 0 _ hs HN.out).mono ?_
  rintro e w1 ⟨v, rfl, hr1, hb1⟩
  have hres : w1.heap[w.heap.size]? = some (.cells #[.int .i64 0, .int .i64 0, .slice none 0 0] 33) := (hb1.block _ (by simp)).trans (heap_alloc_new w _)
  have HB1 := Lib.hid (bel_trans (bel_alloc w _) hb1)
  have hrs := (Array.getElem?_eq_some_iff.1 hres).1
  obtain ⟨b, o, c, rfl, hcap, hcm, hbl, hcells⟩ := hr1.some (by omega)
  have hcell : ∀ i n, l[i]? = some n → w1.cell? ⟨b, o + i, none⟩ = some (.int .i64 n) := fun i n hi => hcells i _ (ints_at hi)
  have HCELL := Lib.hid hcell
  obtain ⟨y0, hy0⟩ : ∃ y, l[0]? = some y := ⟨l[0], by simp⟩
  obtain ⟨y1, hy1⟩ : ∃ y, l[1]? = some y := ⟨l[1], by simp⟩
  have hd : decide ((l.length : Int) < 3) = false := by simp; omega
  have HRES := Lib.hid hres
  have HY0 := Lib.hid hy0
  have HY1 := Lib.hid hy1
  have HR3 := Lib.hid h3
  clear hcells hr1 h3 hcell hy0 hy1 hres hb1
  go_wp2_with fail
  obtain ⟨w2, hw2⟩ : ∃ w2, w1.alloc (Obj.cells #[Value.int IntKind.i64 0, Value.int IntKind.i64 0, Value.slice none 0 0] 33) = w2 := ⟨_, rfl⟩
  have hmb2 : w2.heap[w1.heap.size]? = some (.cells #[.int .i64 0, .int .i64 0, .slice none 0 0] 33) := by rw [← hw2]; exact heap_alloc_new w1 _
  have hbb2 : Below w1.heap.size w1 w2 := by rw [← hw2]; exact bel_alloc _ _
  have hsz2 : w2.heap.size = w1.heap.size + 1 := by rw [← hw2]; simp
  rw [hw2]
  have HMB2 := Lib.hid hmb2
  have HBB2 := Lib.hid hbb2
  have HS2 := Lib.hid hsz2
  clear hw2 hmb2 hbb2 hsz2 hd
  go_loopw [7] (fun i wr => ∃ (k : Nat) (lv : Value), 3 + 3 * k ≤ l.length ∧ i = .int .i64 ((3 + 3 * k : Nat) : Int) ∧ Below w1.heap.size w1 wr ∧ w1.heap.size < wr.heap.size ∧ wr.heap[w1.heap.size]? = some (.cells #[.int .i64 0, .int .i64 0, lv] 33) ∧ wr.ownsRow (w1.heap.size + 1) 50 3 lv k (recCells ((ofNums (l.drop 3)).take k))) (fun i _ => l.length + 3 - (intOf i).toNat)
  case atStart =>
    refine ⟨0, .slice none 0 0, by have := HR3.out; omega, rfl, HBB2.out, by have := HS2.out; omega, HMB2.out, ?_⟩
    exact World.ownsRow_nil _ _ _ _
  case round =>
    obtain ⟨k, lv, hk, rfl, hbw, hsw, hmb, hown⟩ := hrel
    have m2 := cells_at hmb 2 _ rfl
    have mf2 := cells_free hmb 2
    have HMBW := Lib.hid hmb
    have HBW := Lib.hid hbw
    by_cases hk3 : 3 + 3 * k + 2 < l.length
    · have hlt : 3 + 3 * k < l.length := by omega
      obtain ⟨x0, hx0⟩ : ∃ r, l[3 + 3 * k]? = some r := ⟨_, List.getElem?_eq_getElem (show 3 + 3 * k < l.length by omega)⟩
      obtain ⟨x1, hx1⟩ : ∃ r, l[3 + 3 * k + 1]? = some r := ⟨_, List.getElem?_eq_getElem (show 3 + 3 * k + 1 < l.length by omega)⟩
      obtain ⟨x2, hx2⟩ : ∃ r, l[3 + 3 * k + 2]? = some r := ⟨_, List.getElem?_eq_getElem (show 3 + 3 * k + 2 < l.length by omega)⟩
      have g0 := (hbw.cell (p := ⟨b, o + (3 + 3 * k), none⟩) hbl).trans (HCELL.out _ _ hx0)
      have g1 := (hbw.cell (p := ⟨b, o + (3 + 3 * k + 1), none⟩) hbl).trans (HCELL.out _ _ hx1)
      have g2 := (hbw.cell (p := ⟨b, o + (3 + 3 * k + 2), none⟩) hbl).trans (HCELL.out _ _ hx2)
      have HX0 := Lib.hid hx0
      have HX1 := Lib.hid hx1
      have HX2 := Lib.hid hx2
      have hlv : (∃ a c, lv = .slice a k c) := (Reads.own hown).shape
      have ak := own_far hown (show b < w1.heap.size + 1 by omega)
      have am := own_far hown (show w1.heap.size < w1.heap.size + 1 by omega)
      have hkl : k ≤ 1000000 := by omega
      obtain ⟨n, hn⟩ : ∃ n, 3 + 3 * k = n := ⟨_, rfl⟩
      have HN3 := Lib.hid hn
      rw [hn] at hk3 hlt g0 g1 g2 ⊢
      have e1 : IntKind.i64.wrap ((n : Int) + 1) = (n : Int) + 1 := IntWalk.i64_in _ (by omega)
      have e2 : IntKind.i64.wrap ((n : Int) + 2) = (n : Int) + 2 := IntWalk.i64_in _ (by omega)
      have hi0' : (0 : Int) ≤ (n : Int) := Int.natCast_nonneg _
      have hi1 : (n : Int) < (l.length : Int) := by omega
      have hi2 : (n : Int) + 1 < (l.length : Int) := by omega
      have hi3 : (n : Int) + 2 < (l.length : Int) := by omega
      rw [show n + 2 = ((n : Int) + 2).toNat by omega] at g2
      have hi4 : (0 : Int) ≤ (n : Int) + 1 := by omega
      have hi5 : (0 : Int) ≤ (n : Int) + 2 := by omega
      have hx1 : b < wr.heap.size := by omega
      have HOWN := Lib.hid hown
      clear hown hbw hmb hx0 hx1 hx2 hn
      simp only [List.getElem_toArray, List.getElem_cons_succ, List.getElem_cons_zero] at m2
      go_wp2_with fail
      go_region_law (first
          | (refine step_append_lies _ (by rfl) _ _ _ (by rfl) (w1.heap.size + 1) 50 i0 _ 3 24 Try.underlying31 hi0 hz0 hz1 hz2 rfl (by omega) _ k _ (by rfl) ((HOWN.out.alloc _).drew) ⟨wr.heap.size, 0, none⟩ 1 1 [.int .i64 x0, .int .i64 x1, .int .i64 x2] (by rfl) (by rfl) (World.news_of_block (cs := #[.int .i64 x0, .int .i64 x1, .int .i64 x2]) (t := 50) (fr := (0, 0)) (heap_alloc_new wr _)) (by simp [Value.oneCell']) (by omega) (by unfold maxLen; omega) (by omega) (by simp; omega) (wr.heap.size + 1) (by simp) ?_; intro gg cap w3 hown1 hgrow hat hltg; obtain ⟨hb3, q3, hs3⟩ := read_step hsw HBW.out HOWN.out hgrow (by simp) (bel_trans (bel_alloc _ _) (bel_drew _)); have q2 := cells_at (q3.trans HMBW.out) 2 _ rfl; have qf := cells_free (q3.trans HMBW.out) 2; simp only [List.getElem_toArray, List.getElem_cons_succ, List.getElem_cons_zero] at q2)
          | (refine step_append_lies _ (by rfl) _ _ _ (by rfl) (w1.heap.size + 1) 50 i0 _ 3 24 Try.underlying31 hi0 hz0 hz1 hz2 rfl (by omega) _ k _ (by rfl) (HOWN.out.drew.alloc _) ⟨wr.heap.size, 0, none⟩ 1 1 [.int .i64 x0, .int .i64 x1, .int .i64 x2] (by rfl) (by rfl) (World.news_of_block (cs := #[.int .i64 x0, .int .i64 x1, .int .i64 x2]) (t := 50) (fr := (0, 0)) (heap_alloc_new wr.drew _)) (by simp [Value.oneCell']) (by omega) (by unfold maxLen; omega) (by omega) (by simp; omega) (wr.heap.size + 1) (by simp) ?_; intro gg cap w3 hown1 hgrow hat hltg; obtain ⟨hb3, q3, hs3⟩ := read_step hsw HBW.out HOWN.out hgrow (by simp) (bel_trans (bel_drew _) (bel_alloc _ _)); have q2 := cells_at (q3.trans HMBW.out) 2 _ rfl; have qf := cells_free (q3.trans HMBW.out) 2; simp only [List.getElem_toArray, List.getElem_cons_succ, List.getElem_cons_zero] at q2)
          | (refine step_append_lies _ (by rfl) _ _ _ (by rfl) (w1.heap.size + 1) 50 i0 _ 3 24 Try.underlying31 hi0 hz0 hz1 hz2 rfl (by omega) _ k _ (by rfl) (HOWN.out.drew.alloc _).drew ⟨wr.heap.size, 0, none⟩ 1 1 [.int .i64 x0, .int .i64 x1, .int .i64 x2] (by rfl) (by rfl) (World.news_of_block (cs := #[.int .i64 x0, .int .i64 x1, .int .i64 x2]) (t := 50) (fr := (0, 0)) (heap_alloc_new wr.drew _)) (by simp [Value.oneCell']) (by omega) (by unfold maxLen; omega) (by omega) (by simp; omega) (wr.heap.size + 1) (by simp) ?_; intro gg cap w3 hown1 hgrow hat hltg; obtain ⟨hb3, q3, hs3⟩ := read_step hsw HBW.out HOWN.out hgrow (by simp) (bel_trans (bel_trans (bel_drew _) (bel_alloc _ _)) (bel_drew _)); have q2 := cells_at (q3.trans HMBW.out) 2 _ rfl; have qf := cells_free (q3.trans HMBW.out) 2; simp only [List.getElem_toArray, List.getElem_cons_succ, List.getElem_cons_zero] at q2))
      all_goals
        go_wp2
        go_roundw
        case rel =>
          refine ⟨k + 1, .slice (some ⟨gg, 0, none⟩) (k + 1) cap, by have := HN3.out; omega, ?_, hb3.setCell (p := ⟨w1.heap.size, 2, none⟩) (Nat.le_refl _) _, by simpa [World.setCell] using hs3, ?_, ?_⟩
          · have e0 : IntKind.i64.wrap ((n : Int) + 3) = (n : Int) + 3 := IntWalk.i64_in _ (by omega)
            have e4 : ((3 + 3 * (k + 1) : Nat) : Int) = (n : Int) + 3 := by have := HN3.out; omega
            rw [e4]
            first | done | rfl | (rw [e0]; done) | (rw [e0]; rfl)
          · have := cells_set (q3.trans HMBW.out) 2 (.slice (some ⟨gg, 0, none⟩) (k + 1) cap)
            simpa using this
          · refine own_set ?_ (by omega) _ _
            have hat3 : (ofNums (l.drop 3))[k]? = some (x0, x1, x2) := ofNums_at k (l.drop 3) x0 x1 x2 (by rw [List.getElem?_drop]; exact HX0.out) (by rw [List.getElem?_drop, ← Nat.add_assoc]; exact HX1.out) (by rw [List.getElem?_drop, ← Nat.add_assoc]; exact HX2.out)
            rw [take_snoc_of _ k _ hat3, ← recCells_snoc]
            exact hown1
        case measure => simp [intOf]; omega
    · have hlen3 : (ofNums (l.drop 3)).length = k := by rw [ofNums_len _ (l.drop 3) (Nat.le_refl _), List.length_drop]; omega
      have hmo : msgOf l = ⟨y0, y1, ofNums (l.drop 3)⟩ := by unfold msgOf; rw [HY0.out, HY1.out]; rfl
      rw [List.take_of_length_le (by omega)] at hown
      obtain ⟨a, c2, rfl⟩ := (Reads.own hown).shape
      have hmo2 : (msgOf l).seq = y0 ∧ (msgOf l).bar = y1 ∧ (msgOf l).l = ofNums (l.drop 3) := by rw [hmo]; exact ⟨rfl, rfl, rfl⟩
      have HMO := Lib.hid hmo2
      have HOL := Lib.hid hlen3
      have HOWN := Lib.hid hown
      have m0 := cells_at hmb 0 _ rfl
      have m1 := cells_at hmb 1 _ rfl
      have mf0 := cells_free hmb 0
      have mf1 := cells_free hmb 1
      simp only [List.getElem_toArray, List.getElem_cons_succ, List.getElem_cons_zero] at m0 m1 m2
      have g0 := (hbw.cell (p := ⟨b, o + 0, none⟩) hbl).trans (HCELL.out _ _ HY0.out)
      have g1 := (hbw.cell (p := ⟨b, o + 1, none⟩) hbl).trans (HCELL.out _ _ HY1.out)
      rw [Nat.add_zero] at g0
      have hl0 : 0 < l.length := by omega
      have hl1 : (1 : Int) < (l.length : Int) := by have := HR3.out; omega
      have hkl2 : k ≤ 4000 := by omega
      obtain ⟨n, hn⟩ : ∃ n, 3 + 3 * k = n := ⟨_, rfl⟩
      rw [hn] at hk hk3 ⊢
      have e2 : IntKind.i64.wrap ((n : Int) + 2) = (n : Int) + 2 := IntWalk.i64_in _ (by omega)
      have hd : decide ((n : Int) + 2 < (l.length : Int)) = false := by simp; omega
      have hbne : b ≠ w1.heap.size := by omega
      clear hown hmb hbw hmo hlen3 hmo2 hn hk hk3
      go_wp2_with fail
      obtain ⟨X, hX⟩ : ∃ X, (wr.setCell ⟨w1.heap.size, 0, none⟩ (.int .i64 y0)).setCell ⟨w1.heap.size, 1, none⟩ (.int .i64 y1) = X := ⟨_, rfl⟩
      have hbxX : X.heap[w1.heap.size]? = some (.cells #[.int .i64 y0, .int .i64 y1, .slice a k c2] 33) := by
        rw [← hX]
        have := cells_set (cells_set HMBW.out 0 (.int .i64 y0)) 1 (.int .i64 y1)
        simpa using this
      have hownX : X.ownsRow (w1.heap.size + 1) 50 3 (.slice a k c2) k (recCells (ofNums (l.drop 3))) := by
        rw [← hX]; exact own_set (own_set HOWN.out (by omega) _ _) (by omega) _ _
      have hbX : Below w1.heap.size w1 X := by
        rw [← hX]; exact (HBW.out.setCell (p := ⟨w1.heap.size, 0, none⟩) (Nat.le_refl _) _).setCell (p := ⟨w1.heap.size, 1, none⟩) (Nat.le_refl _) _
      have hlenX : w1.heap.size < X.heap.size := (Array.getElem?_eq_some_iff.1 hbxX).1
      rw [hX]
      have hr4 : Reads X (.slice a k c2) (msgOf l).l.length (recCells (msgOf l).l) := by rw [HMO.out.2.2, HOL.out]; exact Reads.own hownX
      have HBXX := Lib.hid hbxX
      have HOWX := Lib.hid hownX
      have HBX := Lib.hid hbX
      have hll : (msgOf l).l.length ≤ 4000 := by rw [HMO.out.2.2, HOL.out]; omega
      have hlenw := hs
      clear hX hbxX hownX hbX m0 m1 m2 mf0 mf1 mf2 g0 g1 hd
      cases hmay : mayB (msgOf l) with
      | false =>
        have hcall := refbytes_bad (msgOf l) _ X hr4 hmay
        rw [HMO.out.1, HMO.out.2.1] at hcall
        refine hcall.mono ?_
        rintro e w4 ⟨rfl, hb4⟩
        have hres : w4.heap[w.heap.size]? = some (.cells #[.int .i64 0, .int .i64 0, .slice none 0 0] 33) := (hb4.block _ (by omega)).trans ((HBX.out.block _ hrs).trans HRES.out)
        have hbel4 : Below w.heap.size w w4 := bel_trans HB1.out (HBX.out.trans (hb4.mono (by omega)))
        have hnone := readP_not _ l HN.out (.inl hmay)
        have f0 := cells_at hres 0 _ rfl
        have f1 := cells_at hres 1 _ rfl
        have f2 := cells_at hres 2 _ rfl
        have z0 := cells_free hres 0
        have z1 := cells_free hres 1
        have z2 := cells_free hres 2
        simp only [List.getElem_toArray, List.getElem_cons_succ, List.getElem_cons_zero] at f0 f1 f2
        have HRS4 := Lib.hid hres
        have HBEL4 := Lib.hid hbel4
        have HNONE := Lib.hid hnone
        clear hres hbel4 hb4 hnone hcall hr4 hmay
        go_wp2_with fail
        have hr := cells_set3 HRS4.out (.int .i64 0) (.int .i64 0) (.slice none 0 0)
        have q0 := cells_at hr 0 _ rfl
        have q1 := cells_at hr 1 _ rfl
        have q2 := cells_at hr 2 _ rfl
        simp only [List.getElem_toArray, List.getElem_cons_succ, List.getElem_cons_zero] at q0 q1 q2
        refine bodyPost_ret (v := .tuple #[zeroMsg, .int .i64 21]) (by simp [results, Try.results26, go_sem, q0, q1, q2, zeroMsg]) rfl ⟨fun _ => rfl, fun m hm => ?_, below_set3 HBEL4.out _ (Nat.le_refl _) _ _ _⟩
        rw [HNONE.out] at hm; simp at hm
      | true =>
        have hcall := refbytes_ok (msgOf l) _ X hr4 hmay HIN.out hll
        rw [HMO.out.1, HMO.out.2.1] at hcall
        refine hcall.mono ?_
        rintro e w4 ⟨rfl, hb4⟩
        have hres : w4.heap[w.heap.size]? = some (.cells #[.int .i64 0, .int .i64 0, .slice none 0 0] 33) := (hb4.block _ (by omega)).trans ((HBX.out.block _ hrs).trans HRES.out)
        have hbox : w4.heap[w1.heap.size]? = some (.cells #[.int .i64 y0, .int .i64 y1, .slice a k c2] 33) := (hb4.block _ hlenX).trans HBXX.out
        have hbel4 : Below w.heap.size w w4 := bel_trans HB1.out (HBX.out.trans (hb4.mono (by omega)))
        have hown4 := own_below HOWX.out hb4
        have f0 := cells_at hres 0 _ rfl
        have f1 := cells_at hres 1 _ rfl
        have f2 := cells_at hres 2 _ rfl
        have z0 := cells_free hres 0
        have z1 := cells_free hres 1
        have z2 := cells_free hres 2
        have m0 := cells_at hbox 0 _ rfl
        have m1 := cells_at hbox 1 _ rfl
        have m2 := cells_at hbox 2 _ rfl
        simp only [List.getElem_toArray, List.getElem_cons_succ, List.getElem_cons_zero] at f0 f1 f2 m0 m1 m2
        have HRS4 := Lib.hid hres
        have HBEL4 := Lib.hid hbel4
        have HOWN4 := Lib.hid hown4
        by_cases heq : msgBytes (msgOf l) = s.data.toList
        · have hsome : readP s.data.toList = some (msgOf l) := by rw [← heq]; exact readP_bytes _ hmay HIN.out hll
          have HSOME := Lib.hid hsome
          have he : (⟨(msgBytes (msgOf l)).toArray⟩ : ByteArray) = s := by rw [heq]
          rw [he]
          clear hres hbox hbel4 hown4 hb4 hsome hcall hr4 hmay heq he
          go_wp2_with fail
          have hr := cells_set3 HRS4.out (.int .i64 y0) (.int .i64 y1) (.slice a k c2)
          have q0 := cells_at hr 0 _ rfl
          have q1 := cells_at hr 1 _ rfl
          have q2 := cells_at hr 2 _ rfl
          simp only [List.getElem_toArray, List.getElem_cons_succ, List.getElem_cons_zero] at q0 q1 q2
          refine bodyPost_ret (v := .tuple #[.agg #[.int .i64 y0, .int .i64 y1, .slice a k c2], .int .i64 0]) (by simp [results, Try.results26, go_sem, q0, q1, q2]) rfl ⟨fun h => ?_, fun m hm => ?_, below_set3 HBEL4.out _ (Nat.le_refl _) _ _ _⟩
          · rw [HSOME.out] at h; simp at h
          · rw [HSOME.out] at hm
            simp only [Option.some.injEq] at hm
            subst hm
            rw [HMO.out.1, HMO.out.2.1, HMO.out.2.2, HOL.out]
            exact ⟨_, rfl, Reads.own (own_set (own_set (own_set HOWN4.out (by omega) _ _) (by omega) _ _) (by omega) _ _)⟩
        · have hnone := readP_not _ l HN.out (.inr heq)
          have HNONE := Lib.hid hnone
          obtain ⟨t, ht⟩ : ∃ t, (⟨(msgBytes (msgOf l)).toArray⟩ : ByteArray) = t := ⟨_, rfl⟩
          have hts : (t.toList == s.toList) = false := by
            rw [Lib.toList_data, Lib.toList_data]
            simp only [beq_eq_false_iff_ne, ne_eq]
            intro e
            exact heq (by rw [← e, ← ht])
          rw [ht]
          clear hres hbox hbel4 hown4 hb4 hnone hcall hr4 hmay heq ht
          go_wp2_with fail
          have hr := cells_set3 HRS4.out (.int .i64 0) (.int .i64 0) (.slice none 0 0)
          have q0 := cells_at hr 0 _ rfl
          have q1 := cells_at hr 1 _ rfl
          have q2 := cells_at hr 2 _ rfl
          simp only [List.getElem_toArray, List.getElem_cons_succ, List.getElem_cons_zero] at q0 q1 q2
          refine bodyPost_ret (v := .tuple #[zeroMsg, .int .i64 21]) (by simp [results, Try.results26, go_sem, q0, q1, q2, zeroMsg]) rfl ⟨fun _ => rfl, fun m hm => ?_, below_set3 HBEL4.out _ (Nat.le_refl _) _ _ _⟩
          rw [HNONE.out] at hm; simp at hm

theorem refread_any (s : ByteArray) (w : World) (hs : s.size ≤ 12000) :
    Calls Try.prog 26 #[.string s] w (ReadSays (readP s.data.toList) w) := by
  obtain ⟨l, x, hl⟩ : ∃ l x, Cl.nums s.data.toList = (l, x) := ⟨_, _, rfl⟩
  have hlen := nums_len_le2 s.data.toList
  have hss : s.data.toList.length = s.size := by cases s; rfl
  rw [hl] at hlen
  simp only at hlen
  by_cases hc : x = 0 ∧ 3 ≤ l.length
  · obtain ⟨rfl, h3⟩ := hc
    exact refread_ok s l w (by omega) hl h3 (by omega)
  · have hn : readP s.data.toList = none := by
      unfold readP
      rw [hl]
      exact if_neg (fun h => hc ⟨h.1, h.2.1.1⟩)
    refine (refread_form s l x w (by omega) hl hc).mono ?_
    rintro e w' ⟨rfl, hb⟩
    rw [hn]
    exact ⟨fun _ => rfl, fun m hm => (by cases hm), hb⟩

end Go.Proofs.Ytgoglcggnmfapaa
