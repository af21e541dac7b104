/-
  OutputOnce, plainly.
-/
import Derived.Test.YtllecjhfbojgcaaOutCrash
import Derived.Test.YtllecjhfbojgcaaArgsOut
namespace Go.Proofs.Ytllecjhfbojgcaa
open Go.RowKit
set_option maxRecDepth 20000

namespace Lg
/-- Cut on a disk that is on: what is left, is sure. -/
theorem Two.cut {f : Bool → Nat} {D : Dk.St} {s : Bool → List Rec} {l : List (Bool × Rec)} (h : Two f D s l) (hF : Free D) (p : Bool) (L : St) (hL : L.rs = s p ++ pick p l) (k : Nat) (hk : k < L.rs.length) :
    (Lg.cut D (f p) L k).1 = 0 ∧ (Lg.cut D (f p) L k).2.2 = ⟨L.rs.take k, k⟩ ∧ Two f (Lg.cut D (f p) L k).2.1 (fun q => if q = p then L.rs.take k else s q ++ pick q l) [] ∧ Free (Lg.cut D (f p) L k).2.1 := by
  have hnow : ∀ q, (Dk.at' D.now (f q)).data.toList = bytesOf (s q ++ pick q l) := h.now
  have hsz : (Dk.at' D.now (f p)).size = (bytesOf L.rs).length := by rw [← len_data, hnow p, ← hL]
  have hle := ends_le L.rs k
  have hlen := h.ok.nowL
  have hcu := hF.cut (f p) (ends L.rs k) (h.lt p) (by rw [hsz]; exact hle)
  have hok1 := Dk.cut_ok h.ok (f p) (ends L.rs k)
  rw [hcu] at hok1
  have hfr : Free { D with now := (Dk.Ch.cut (f p) (ends L.rs k)).run D.now, loose := D.loose ++ [.cut (f p) (ends L.rs k)] } := ⟨hF.off, hF.left⟩
  have hok2 := Dk.sync_ok hok1
  rw [hfr.sync] at hok2
  have hc : Lg.cut D (f p) L k = (0, { D with now := (Dk.Ch.cut (f p) (ends L.rs k)).run D.now, loose := [], sure := (Dk.Ch.cut (f p) (ends L.rs k)).run D.now }, ⟨L.rs.take k, k⟩) := by
    unfold Lg.cut
    rw [if_neg (by omega), if_neg (by omega), Int.toNat_natCast, hcu, if_neg (by simp)]
    unfold cutDone
    rw [hfr.sync, if_pos rfl]
  rw [hc]
  have hat : ∀ q, (Dk.at' ((Dk.Ch.cut (f p) (ends L.rs k)).run D.now) (f q)).data.toList = bytesOf (if q = p then L.rs.take k else s q ++ pick q l) := fun q => by
    show (Dk.at' (D.now.set (f p) ((Dk.at' D.now (f p)).extract 0 (ends L.rs k))) (f q)).data.toList = _
    by_cases hq : q = p
    · subst hq
      rw [if_pos rfl, Dk.at_set_same _ _ _ (by rw [hlen]; exact h.lt q), Lib.extract_data, hnow q, ← hL]
      simp only [List.drop_zero, Nat.sub_zero]
      exact take_bytes L.rs k
    · rw [if_neg hq, Dk.at_set_ne _ _ _ _ (h.ne p q (Ne.symm hq))]
      exact hnow q
  have htot := h.total
  have hts : Dk.total (D.now.set (f p) ((Dk.at' D.now (f p)).extract 0 (ends L.rs k))) + (bytesOf L.rs).length = Dk.total D.now + ends L.rs k := by
    have := Dk.total_set D.now (f p) ((Dk.at' D.now (f p)).extract 0 (ends L.rs k)) (by rw [hlen]; exact h.lt p)
    rw [ByteArray.size_extract, hsz] at this
    omega
  have hek : (bytesOf (L.rs.take k)).length = ends L.rs k := rfl
  refine ⟨rfl, rfl, ⟨hok2, h.ne, h.lt, hat, rfl, fun q r hr => ?_, fun q hq => (by cases hq), h.room, ?_⟩, ⟨hF.off, hF.left⟩⟩
  · by_cases hq : q = p
    · subst hq
      rw [if_pos rfl] at hr
      exact h.good q r (by rw [← hL]; exact List.mem_of_mem_take hr)
    · rw [if_neg hq] at hr
      exact h.good q r hr
  · show Dk.total (D.now.set (f p) _) = _
    cases p
    · rw [if_pos rfl, if_neg (by decide), hek]
      have hb : (bytesOf L.rs).length = (bytesOf (s false ++ pick false l)).length := by rw [hL]
      omega
    · rw [if_neg (by decide), if_pos rfl, hek]
      have hb : (bytesOf L.rs).length = (bytesOf (s true ++ pick true l)).length := by rw [hL]
      omega
end Lg

theorem OTwo.lcut {S : OSt} {s : Bool → List Lg.Rec} {l : List (Bool × Lg.Rec)} (h : OTwo S s l) (hF : Lg.Free S.D) (p : Bool) (k : Nat) (hk : k < (S.r p).length) :
    (S.lcut p k).1 = 0 ∧ ((S.lcut p k).2.L p).rs.length = k ∧ (∃ s', OTwo ((S.lcut p k).2.less p k) s' []) ∧ Lg.Free ((S.lcut p k).2.less p k).D := by
  have hlk : (S.L p).rs.length = (S.r p).length := by rw [h.link p, List.length_map]
  obtain ⟨q1, q2, q3, q4⟩ := h.two.cut hF p (S.L p) (h.rs p) k (by omega)
  have hL : (S.lcut p k).2.L = upd S.L p ⟨(S.L p).rs.take k, k⟩ := by
    show upd S.L p (Lg.cut S.D (fO p) (S.L p) k).2.2 = _
    rw [q2]
  refine ⟨q1, by rw [hL, upd_same, List.length_take]; omega, ⟨_, ⟨q3, fun q => ?_, fun q => ?_, fun q => ?_, fun q => ?_⟩⟩, q4⟩
  · show ((S.lcut p k).2.L q).rs = _
    rw [hL, Lg.pick_nil, List.append_nil]
    by_cases hq : q = p
    · subst hq
      rw [upd_same, if_pos rfl]
    · rw [upd_ne _ _ hq, if_neg hq]
      exact h.rs q
  · show ((S.lcut p k).2.L q).sure ≤ _
    rw [hL]
    by_cases hq : q = p
    · subst hq
      rw [upd_same, if_pos rfl, List.length_take]
      show k ≤ _
      omega
    · rw [upd_ne _ _ hq, if_neg hq]
      have := h.su q
      rw [List.length_append]
      omega
  · show ((S.lcut p k).2.L q).rs = (upd S.r p ((S.r p).take k) q).map entO
    rw [hL]
    by_cases hq : q = p
    · subst hq
      rw [upd_same, upd_same, List.map_take, ← h.link q]
    · rw [upd_ne _ _ hq, upd_ne _ _ hq]
      exact h.link q
  · show OValid (upd S.r p ((S.r p).take k) q)
    by_cases hq : q = p
    · subst hq
      rw [upd_same]
      exact (h.valid q).take k
    · rw [upd_ne _ _ hq]
      exact h.valid q

theorem OTwo.cutF {S : OSt} {s : Bool → List Lg.Rec} {l : List (Bool × Lg.Rec)} (h : OTwo S s l) (hF : Lg.Free S.D) (n : Int) (hn : 1 ≤ n) (k : Nat) (hb : beyond (S.r false) n = some k) (hb2 : beyond (S.r true) n = none) :
    (S.cut n).1 = 0 ∧ (S.cut n).2.r = upd S.r false ((S.r false).take k) ∧ (∃ s', OTwo (S.cut n).2 s' []) ∧ Lg.Free (S.cut n).2.D := by
  obtain ⟨q1, q2, q3, q4⟩ := h.lcut hF false k (beyond_lt hb)
  have e1 : OSt.cut1 n S false = (0, (S.lcut false k).2.less false k) := by
    unfold OSt.cut1
    rw [hb]
    show ((S.lcut false k).1, if ((S.lcut false k).2.L false).rs.length = k then (S.lcut false k).2.less false k else (S.lcut false k).2) = _
    rw [if_pos q2, q1]
  have e2 : OSt.cut1 n ((S.lcut false k).2.less false k) true = (0, (S.lcut false k).2.less false k) := by
    unfold OSt.cut1
    have : ((S.lcut false k).2.less false k).r true = S.r true := by show upd S.r false ((S.r false).take k) true = _; exact upd_ne _ _ (by decide)
    rw [this, hb2]
  have e : S.cut n = (0, (S.lcut false k).2.less false k) := by
    unfold OSt.cut OSt.each
    rw [if_neg (by omega), e1, if_neg (by simp)]
    exact e2
  rw [e]
  exact ⟨rfl, rfl, q3, q4⟩

structure Once (S : OSt) (last : Int) (want : List OutX) (i : Nat) : Prop where
  two : ∃ s l, OTwo S s l
  free : Lg.Free S.D
  lo : 1 ≤ last
  hi : last ≤ i + 1
  mark : ∀ p, lastO (S.r p) 2 = last
  all : ∀ p, ∀ r ∈ S.r p, r.n ≤ last
  rows : (S.r false).flatMap (·.l) = want
  wl : want.length ≤ 500 * i
  len : ∀ p, (S.r p).length ≤ 1 + 2 * i
  wt : wtO (S.r false) + wtO (S.r true) ≤ 50 + i * 10075

theorem Once.fit {S : OSt} {last : Int} {want : List OutX} {i : Nat} (h : Once S last want i) (hi : i ≤ 60) : OFit 300 S := by
  obtain ⟨s, l, ht⟩ := h.two
  have h0 := h.len false
  have h1 := h.len true
  exact ht.fit (by omega)
theorem Once.counts {S : OSt} {last : Int} {want : List OutX} {i : Nat} (h : Once S last want i) : countsO (S.r false) = want := by
  rw [countsO_all (fun r hr => by rw [h.mark]; exact h.all false r hr), h.rows]

theorem flat_snoc (rs : List ORec) (r : ORec) : (rs ++ [r]).flatMap (·.l) = rs.flatMap (·.l) ++ r.l := by simp

theorem once_start : (out0.mark 1).1 = 0 ∧ Once (out0.mark 1).2 1 [] 0 := by
  have hr := out0_r
  have hm : ∀ p, markR 1 (out0.r p) = [⟨2, 1, []⟩] := fun p => by rw [hr]; rfl
  rcases OTwo.start.mark 1 (by unfold Cl.In64; omega) (by omega) (fun p => by rw [hr]; exact .inr rfl) (fun p => by rw [hr]; show (0 : Nat) < _; omega) (by rw [hr]; decide) with ⟨q1, q2, ⟨s, q3⟩, q4⟩ | ⟨-, q2, -⟩
  · have hq : ∀ p, (out0.mark 1).2.r p = [⟨2, 1, []⟩] := fun p => by rw [q2]; exact hm p
    refine ⟨q1, ⟨s, [], q3⟩, q4 out0_free, by omega, by omega, fun p => ?_, fun p r hr => ?_, ?_, ?_, fun p => ?_, ?_⟩
    · rw [hq]; rfl
    · rw [hq, List.mem_singleton] at hr; rw [hr]; exact Int.le_refl _
    · rw [hq]; rfl
    · exact Nat.le_refl _
    · rw [hq]; exact Nat.le_refl _
    · rw [hq, hq]; decide
  · exact absurd out0_free q2

structure OnceStep (S : OSt) (last : Int) (want x : List OutX) (i : Nat) : Prop where
  e1 : (S.tell false (i + 2) x).1 = 0
  fit1 : OFit 300 (S.tell false (i + 2) x).2
  e2 : ((S.tell false (i + 2) x).2.mark (i + 2)).1 = 0
  fit2 : OFit 300 ((S.tell false (i + 2) x).2.mark (i + 2)).2
  e3 : (((S.tell false (i + 2) x).2.mark (i + 2)).2.mark (i + 2)).1 = 0
  st3 : Once (((S.tell false (i + 2) x).2.mark (i + 2)).2.mark (i + 2)).2 (i + 2) (want ++ x) (i + 1)
  hL : ∀ p, ((S.tell false (i + 2) x).2.L p).rs.length = ((S.tell false (i + 2) x).2.r p).length
  e4 : ((S.tell false (i + 2) x).2.cut last).1 = 0
  st4 : Once ((S.tell false (i + 2) x).2.cut last).2 last want (i + 1)

set_option maxRecDepth 100000 in
theorem Once.step {S : OSt} {last : Int} {want : List OutX} {i : Nat} (h : Once S last want i) (hi : i < 50) (x : List OutX) (hx : x.length ≤ 500) (hin : OIn x) : OnceStep S last want x i := by
  obtain ⟨s, l, ht⟩ := h.two
  obtain ⟨n, hn⟩ : ∃ n : Int, (i : Int) + 2 = n := ⟨_, rfl⟩
  have hn64 : Cl.In64 n := by unfold Cl.In64; omega
  have hlo := h.lo
  have hhi := h.hi
  have hwt := h.wt
  have hl0 := h.len false
  have hl1 := h.len true
  have hk1 : ∀ p, lastO (S.r p) 1 ≤ last := fun p => lastO_le (by omega) (h.all p)
  have hk10 := hk1 false
  have hk11 := hk1 true
  have hw : i * 10075 ≤ 50 * 10075 := Nat.mul_le_mul_right _ (by omega)
  have hm0 := h.mark false
  have hm1 := h.mark true
  obtain ⟨e1, r1, t1, F1⟩ := ht.tell1 h.free false n x hn64 (by omega) hin (by omega) (by omega) (by rw [hm0]; omega) (by omega) (by omega)
  obtain ⟨S1, hS1⟩ : ∃ S1, (S.tell false n x).2 = S1 := ⟨_, rfl⟩
  rw [hS1] at r1 t1 F1
  have rf : S1.r false = S.r false ++ [⟨1, n, x⟩] := by rw [r1, upd_same]
  have rt : S1.r true = S.r true := by rw [r1, upd_ne _ _ (by decide)]
  have w1 : wtO (S1.r false) = wtO (S.r false) + (25 + 20 * x.length) := by rw [rf, wtO_snoc]
  have w1t : wtO (S1.r true) = wtO (S.r true) := by rw [rt]
  have l1f : (S1.r false).length = (S.r false).length + 1 := by rw [rf]; simp
  have l1t : (S1.r true).length = (S.r true).length := by rw [rt]
  have m1f : lastO (S1.r false) 2 = last := by rw [rf, lastO_snoc, if_neg (by show ¬ (1 : UInt8) = 2; decide), hm0]
  have k1f : lastO (S1.r false) 1 = n := by rw [rf, lastO_snoc, if_pos rfl]
  have m1t : lastO (S1.r true) 2 = last := by rw [rt, hm1]
  have k1t : lastO (S1.r true) 1 ≤ last := by rw [rt]; exact hk11
  have hmk : ∀ p, Markable n (S1.r p) := fun p => by
    refine .inr ?_
    unfold takesO
    rw [if_neg (by show ¬ (2 : UInt8) = 1; decide)]
    simp only [Bool.and_eq_true, decide_eq_true_eq]
    cases p
    · exact ⟨by rw [m1f]; omega, by rw [k1f]; exact Int.le_refl _⟩
    · exact ⟨by rw [m1t]; omega, by show lastO _ _ ≤ n; omega⟩
  have hL1 : ∀ p, (S1.L p).rs.length = (S1.r p).length := fun p => by rw [t1.link p, List.length_map]
  have hf1 : OFit 300 S1 := t1.fit (by omega)
  obtain ⟨q1, q2, ⟨s2, t2⟩, F2⟩ : (S1.mark n).1 = 0 ∧ (S1.mark n).2.r = (fun p => markR n (S1.r p)) ∧ (∃ s', OTwo (S1.mark n).2 s' []) ∧ (Lg.Free S1.D → Lg.Free (S1.mark n).2.D) := by
    rcases t1.mark n hn64 (by omega) hmk (fun p => by cases p <;> omega) (by omega) with hh | ⟨-, hh, -⟩
    · exact hh
    · exact absurd F1 hh
  obtain ⟨S2, hS2⟩ : ∃ S2, (S1.mark n).2 = S2 := ⟨_, rfl⟩
  rw [hS2] at q2 t2 F2
  have r2f : S2.r false = S1.r false ++ [⟨2, n, []⟩] := by rw [q2]; show markR n (S1.r false) = _; unfold markR; rw [m1f, if_neg (by omega)]
  have r2t : S2.r true = S1.r true ++ [⟨2, n, []⟩] := by rw [q2]; show markR n (S1.r true) = _; unfold markR; rw [m1t, if_neg (by omega)]
  have m2 : ∀ p, lastO (S2.r p) 2 = n := fun p => by cases p <;> first | (rw [r2f, lastO_snoc, if_pos rfl]) | (rw [r2t, lastO_snoc, if_pos rfl])
  have w2f : wtO (S2.r false) = wtO (S1.r false) + 25 := by rw [r2f, wtO_snoc]; rfl
  have w2t : wtO (S2.r true) = wtO (S1.r true) + 25 := by rw [r2t, wtO_snoc]; rfl
  have l2f : (S2.r false).length = (S1.r false).length + 1 := by rw [r2f]; simp
  have l2t : (S2.r true).length = (S1.r true).length + 1 := by rw [r2t]; simp
  have hf2 : OFit 300 S2 := t2.fit (by omega)
  obtain ⟨u1, u2, ⟨s3, t3⟩, F3⟩ : (S2.mark n).1 = 0 ∧ (S2.mark n).2.r = (fun p => markR n (S2.r p)) ∧ (∃ s', OTwo (S2.mark n).2 s' []) ∧ (Lg.Free S2.D → Lg.Free (S2.mark n).2.D) := by
    rcases t2.mark n hn64 (by omega) (fun p => .inl (by rw [m2]; exact Int.le_refl _)) (fun p => by cases p <;> omega) (by omega) with hh | ⟨-, hh, -⟩
    · exact hh
    · exact absurd (F2 F1) hh
  obtain ⟨S3, hS3⟩ : ∃ S3, (S2.mark n).2 = S3 := ⟨_, rfl⟩
  rw [hS3] at u2 t3 F3
  have r3 : ∀ p, S3.r p = S2.r p := fun p => by rw [u2]; show markR n (S2.r p) = _; unfold markR; rw [m2, if_pos (Int.le_refl _)]
  have hbf : beyond (S1.r false) last = some (S.r false).length := by
    refine beyond_some (r := ⟨1, n, x⟩) ?_ (by show last < n; omega) (fun k r hk hr => ?_)
    · rw [rf, List.getElem?_append_right (Nat.le_refl _), Nat.sub_self]; rfl
    · rw [rf, List.getElem?_append_left hk] at hr
      exact h.all false r (List.mem_of_getElem? hr)
  have hbt : beyond (S1.r true) last = none := beyond_none (fun k r hr => by rw [rt] at hr; exact h.all true r (List.mem_of_getElem? hr))
  obtain ⟨c1, c2, ⟨s4, t4⟩, F4⟩ := t1.cutF F1 last hlo _ hbf hbt
  obtain ⟨S4, hS4⟩ : ∃ S4, (S1.cut last).2 = S4 := ⟨_, rfl⟩
  rw [hS4] at c2 t4 F4
  have r4 : S4.r = S.r := by
    rw [c2]
    funext p
    cases p
    · rw [upd_same, rf, List.take_left' rfl]
    · rw [upd_ne _ _ (by decide), rt]
  have hwl := h.wl
  have hwt2 : wtO (S.r false) + wtO (S.r true) ≤ 50 + (i + 1) * 10075 := by omega
  have hi1 : ((i + 1 : Nat) : Int) = (i : Int) + 1 := by omega
  constructor
  · rw [hn]; exact e1
  · rw [hn, hS1]; exact hf1
  · rw [hn, hS1]; exact q1
  · rw [hn, hS1, hS2]; exact hf2
  · rw [hn, hS1, hS2]; exact u1
  · rw [hn, hS1, hS2, hS3]
    refine ⟨⟨_, _, t3⟩, F3 (F2 F1), by omega, by omega, fun p => by rw [r3]; exact m2 p, fun p r hr => ?_, ?_, ?_, fun p => ?_, ?_⟩
    · rw [r3] at hr
      cases p
      · rw [r2f, rf] at hr
        simp only [List.mem_append, List.mem_cons, List.not_mem_nil, or_false] at hr
        rcases hr with (hr | rfl) | rfl
        · have := h.all false r hr; omega
        · exact Int.le_refl _
        · exact Int.le_refl _
      · rw [r2t, rt] at hr
        simp only [List.mem_append, List.mem_cons, List.not_mem_nil, or_false] at hr
        rcases hr with hr | rfl
        · have := h.all true r hr; omega
        · exact Int.le_refl _
    · rw [r3, r2f, rf, flat_snoc, flat_snoc, h.rows, List.append_nil]
    · rw [List.length_append]; omega
    · rw [r3]; cases p <;> omega
    · rw [r3, r3]; omega
  · rw [hn, hS1]; exact hL1
  · rw [hn, hS1]; exact c1
  · rw [hn, hS1, hS4]
    exact ⟨⟨_, _, t4⟩, F4, hlo, by omega, fun p => by rw [r4]; exact h.mark p, fun p => by rw [r4]; exact h.all p, by rw [r4]; exact h.rows, by omega, fun p => by rw [r4]; have := h.len p; omega, by rw [r4]; exact hwt2⟩

/-! ### What came in: rows of rows, and bools -/
open Go.ChangeShapes Go.WideShapes
set_option maxRecDepth 20000
def boolCells (l : List Bool) : List Value := l.map .bool
/-- Rows of rows, with the value of each. -/
structure RowIn (w : World) (o : List OutX × Value) : Prop where
  rd : Reads w o.2 o.1.length (outCells o.1)
  i : OIn o.1
def rowCells (l : List (List OutX × Value)) : List Value := l.map (·.2)


/-- A slice of one-cell values that came in. -/
theorem reads_one {H : Type} {enc : TypeId × Value → H} {P : Program} {w : World} {base : Nat} {spare : Nat → Bool} {held : Bool} {t e : TypeId} {fuel : Nat} {v : Value} {x : DataW H × List MemPlace} {α : Type} [Inhabited α] (val : α → Value) (Q : α → Prop)
    (ht : P.underlying t = some (.slice e)) (hc : P.cellsOf e = 1) (hel : ∀ fuel u y, DataW.trod enc P w base spare held fuel e [u] = some y → ∃ r : α, u = val r ∧ Q r)
    (h : DataW.trod enc P w base spare held fuel t [v] = some x) : ∃ l : List α, Reads w v l.length (l.map val) ∧ ∀ r ∈ l, Q r := by
  rcases Deep.open_slice1 ht hc h with ⟨hcs, hx⟩ | ⟨a, len, cap, m, n, V, D, Pl, hcs, _, hl, hm, hmm, hx, hV⟩
  · simp only [List.cons.injEq, and_true] at hcs
    subst hcs
    exact ⟨[], Reads.nil _, by simp⟩
  · simp only [List.cons.injEq, and_true] at hcs
    subst hcs
    have hle : len ≤ m := by rw [hmm]; split <;> omega
    obtain ⟨f, hf⟩ := Deep.choose_lt (α := α) (n := len) (p := fun i r => w.cell? (a.add i) = some (val r) ∧ Q r) (fun i hi => by
      obtain ⟨h1, h2⟩ := hV i (by omega)
      obtain ⟨r, hr, hq⟩ := hel _ _ _ h2
      exact ⟨r, by rw [← hr]; exact h1, hq⟩)
    have hget : ∀ i r, ((List.range len).map f)[i]? = some r → w.cell? (a.add i) = some (val r) ∧ Q r := by
      intro i r hi
      rw [List.getElem?_map] at hi
      obtain ⟨j, hj, rfl⟩ := Option.map_eq_some_iff.1 hi
      obtain ⟨hlt, rfl⟩ := List.getElem?_eq_some_iff.1 hj
      rw [List.length_range] at hlt
      simp only [List.getElem_range]
      exact hf i hlt
    refine ⟨(List.range len).map f, ?_, fun r hr => ?_⟩
    · by_cases h0 : len = 0
      · subst h0
        exact .inl ⟨_, _, rfl, rfl, rfl⟩
      · obtain ⟨b, off, spot⟩ := a
        obtain ⟨hz, -⟩ := hf 0 (by omega)
        have hspot : spot = none := by simpa [Addr.add] using World.cell?_spot hz
        subst hspot
        refine .inr ⟨b, off, cap, by simp, by simpa using hl, hm, World.block_lt_of_cell? w _ hz, fun i c hi => ?_⟩
        rw [List.getElem?_map] at hi
        obtain ⟨r, hr, rfl⟩ := Option.map_eq_some_iff.1 hi
        have := (hget i r hr).1
        rw [addr_add] at this
        exact this
    · obtain ⟨i, hi⟩ := List.mem_iff_getElem?.1 hr
      exact (hget i r hi).2
theorem reads_bools {H : Type} {enc : TypeId × Value → H} {P : Program} {w : World} {base : Nat} {spare : Nat → Bool} {held : Bool} {t e : TypeId} {fuel : Nat} {v : Value} {x : DataW H × List MemPlace}
    (ht : P.underlying t = some (.slice e)) (he : P.underlying e = some .bool) (hc : P.cellsOf e = 1) (h : DataW.trod enc P w base spare held fuel t [v] = some x) : ∃ l : List Bool, Reads w v l.length (boolCells l) := by
  obtain ⟨l, hl, -⟩ := reads_one (Value.bool ·) (fun _ => True) ht hc (fun fuel u y hy => by
    obtain ⟨b, hb, -⟩ := DataW.trod_bool he hy
    simp only [List.cons.injEq, and_true] at hb
    exact ⟨b, hb, trivial⟩) h
  exact ⟨l, hl⟩
theorem reads_rows {H : Type} {enc : TypeId × Value → H} {P : Program} {w : World} {base : Nat} {spare : Nat → Bool} {held : Bool} {t e g : TypeId} {f0 f1 : Field} {fuel : Nat} {v : Value} {x : DataW H × List MemPlace}
    (ht : P.underlying t = some (.slice e)) (hc : P.cellsOf e = 1) (ht2 : P.underlying e = some (.slice g)) (he : P.underlying g = some (.struct #[f0, f1])) (hc2 : P.cellsOf g = 2)
    (k0 : P.underlying f0.type = some (.int .i64)) (k1 : P.underlying f1.type = some (.int .i64))
    (o0 : f0.offset = 0) (o1 : f1.offset = 1) (c0 : P.cellsOf f0.type = 1) (c1 : P.cellsOf f1.type = 1)
    (h : DataW.trod enc P w base spare held fuel t [v] = some x) : ∃ l : List (List OutX × Value), Reads w v l.length (rowCells l) ∧ ∀ o ∈ l, RowIn w o :=
  reads_one (α := List OutX × Value) (fun o => o.2) (RowIn w) ht hc (fun fuel u y hy => by
    obtain ⟨r, h1, h2, -⟩ := reads_outs ht2 he hc2 k0 k1 o0 o1 c0 c1 hy
    exact ⟨(r, u), rfl, h1, outs_in h2⟩) h

end Go.Proofs.Ytllecjhfbojgcaa
