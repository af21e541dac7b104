/-
  The input's Open on files with records.
-/
import Derived.Test.YtllecjhfbojgcaaInLiveB
import Derived.Test.YtllecjhfbojgcaaInAdd
import Derived.Test.YtllecjhfbojgcaaTwoP
import Derived.Test.YtllecjhfbojgcaaFreeRegion
import Derived.Deep.CutRange
namespace Go.Proofs.Ytllecjhfbojgcaa
open Go.RowKit
set_option maxRecDepth 20000

theorem wf_small (i : Nat) (h : i < 1000000) : (Lit.int .i64 (i : Int)).wf = true := by
  have h1 : IntKind.i64.min = -9223372036854775808 := rfl
  have h2 : IntKind.i64.max = 9223372036854775807 := rfl
  simp [Lit.wf, h1, h2]
  omega
/-- What is known of a part's log while the map is filled. -/
structure PartP (w0 : Fr) (n d l0 l1 : Nat) (lv : Value) (S : InSt) (b m : Nat) (k : Nat) (lp : Nat) (pre P : List (Nat × InR)) : Prop where
  idx : ∀ w, (Instr.index 94 (.agg #[.pointer (some ⟨l0, 0, none⟩), .pointer (some ⟨l1, 0, none⟩)]) (.int .i64 (k : Int))).run Try.prog w = .ok (.pointer (some ⟨lp, 0, none⟩)) w
  len : ∀ W, InLiveB w0 W n d l0 l1 lv S b → Calls Try.prog 45 #[.pointer (some ⟨lp, 0, none⟩)] W fun e w' => e = .returned (.int .i64 (P.length : Int)) ∧ W = w'
  at' : ∀ W (j : Nat) q, InLiveB w0 W n d l0 l1 lv S b → P[j]? = some q → Calls Try.prog 46 #[.pointer (some ⟨lp, 0, none⟩), .int .i64 (j : Int)] W fun e w' => e = .returned (.tuple #[.int .u8 1, .string (entI q.1 q.2).text, .int .i64 0]) ∧ Below W.heap.size W w'
  new : ∀ j q, P[j]? = some q → look (keyed' (pre ++ P.take j)) (q.1 : Int) = none
  part : ∀ q ∈ P, q.2.part = k ∧ Cl.In64 q.2.key ∧ Cl.In64 q.2.val ∧ q.1 < m
  less : ∀ j q r, P[j]? = some q → P[j + 1]? = some r → q.1 < r.1
  small : P.length ≤ m ∧ pre.length ≤ m

theorem part_of {w0 : Fr} {n d l0 l1 : Nat} {lv : Value} {D : Dk.St} {rs : List InR} {b : Nat} {rs' : List InR} (hin : ∀ x ∈ rs, Cl.In64 x.key ∧ Cl.In64 x.val) (k : Nat) (hk : k < 2) :
    ∃ lp, PartP w0 n d l0 l1 lv ⟨D, ⟨ents 0 rs, (ents 0 rs).length⟩, ⟨ents 1 rs, (ents 1 rs).length⟩, rs'⟩ b rs.length k lp (if k = 0 then [] else pairsI 0 rs) (pairsI (k : Int) rs) := by
  have hent : ∀ (p : Int) (j : Nat) q, (pairsI p rs)[j]? = some q → (ents p rs)[j]? = some (entI q.1 q.2) := fun p j q h => by
    unfold ents
    rw [List.getElem?_map, h]
    rfl
  have hpart : ∀ (p : Int), ∀ q ∈ pairsI p rs, q.2.part = p ∧ Cl.In64 q.2.key ∧ Cl.In64 q.2.val ∧ q.1 < rs.length := fun p q hq => by
    obtain ⟨h1, h2, h3, h4⟩ := pairsN_mem p rs 0 q hq
    have := hin q.2 (List.mem_of_getElem? h4)
    exact ⟨h1, this.1, this.2, by omega⟩
  have hat : ∀ (L : List Lg.Rec) (j : Nat) (q : Nat × InR), L[j]? = some (entI q.1 q.2) → Lg.at' ⟨L, L.length⟩ (j : Int) = (1, (entI q.1 q.2).text, 0) := fun L j q h => by
    unfold Lg.at'
    rw [if_neg (by omega), Int.toNat_natCast, h]
    rfl
  rcases (show k = 0 ∨ k = 1 by omega) with rfl | rfl
  · refine ⟨l0, fun _ => by kernel_rfl, fun W h => ?_, fun W j q h hq => ?_, fun j q hq => ?_, fun q hq => hpart 0 q hq, fun j q r h1 h2 => pairs_less 0 rs h1 h2 (by omega), ⟨pairsN_le 0 rs 0, Nat.zero_le _⟩⟩
    · obtain ⟨F, G0, G1, N, h, -⟩ := h
      have := loglen_any W l0 d 0 _ G0 h.log0
      rw [ents_len] at this
      exact this
    · obtain ⟨F, G0, G1, N, h, -⟩ := h
      have := logat_any W l0 d 0 _ G0 h.log0 (j : Int)
      rw [hat _ j q (hent 0 j q hq)] at this
      exact this
    · exact look_new0 rs j q hq
  · refine ⟨l1, fun _ => by kernel_rfl, fun W h => ?_, fun W j q h hq => ?_, fun j q hq => ?_, fun q hq => hpart 1 q hq, fun j q r h1 h2 => pairs_less 1 rs h1 h2 (by omega), ⟨pairsN_le 1 rs 0, pairsN_le 0 rs 0⟩⟩
    · obtain ⟨F, G0, G1, N, h, -⟩ := h
      have := loglen_any W l1 d 1 _ G1 h.log1
      rw [ents_len] at this
      exact this
    · obtain ⟨F, G0, G1, N, h, -⟩ := h
      have := logat_any W l1 d 1 _ G1 h.log1 (j : Int)
      rw [hat _ j q (hent 1 j q hq)] at this
      exact this
    · exact look_new1 rs j q hq

set_option maxHeartbeats 8000000 in
set_option maxRecDepth 100000 in
theorem inopen_recs (w0 : Fr) (w : World) (d : Nat) (D D1 D2 : Dk.St) (hL : LiveF w0 w d D) (rs : List InR) (hlen : rs.length ≤ 500) (hp : ∀ x ∈ rs, x.part = 0 ∨ x.part = 1) (hin : ∀ x ∈ rs, Cl.In64 x.key ∧ Cl.In64 x.val)
    (h0 : Opens D 0 D1 (ents 0 rs)) (h1 : Opens D1 1 D2 (ents 1 rs)) :
    Calls Try.prog 13 #[ptr d 0] w fun e w' => ∃ n l0 l1 lv, e = .returned (.tuple #[ptr n 0, .int .i64 0]) ∧ InLive w0 w' n d l0 l1 lv ⟨D2, ⟨ents 0 rs, (ents 0 rs).length⟩, ⟨ents 1 rs, (ents 1 rs).length⟩, rs⟩ := by
  obtain ⟨F, hd, hFn, hold⟩ := hL
  have hmm := @run_makeMap Try.prog
  obtain ⟨W, hW⟩ : ∃ W, (w.alloc (.cells #[.pointer none, .pointer none, .slice none 0 0] 96)).alloc (.map #[] 0) = W := ⟨_, rfl⟩
  have hbW : Below w.heap.size w W := by rw [← hW]; exact bel_trans (bel_alloc _ _) (bel_alloc _ _)
  have hWs : W.heap.size = w.heap.size + 2 := by rw [← hW]; simp
  have hn : W.heap[w.heap.size]? = some (.cells #[.pointer none, .pointer none, .slice none 0 0] 96) := by
    rw [← hW]; exact (Below.heap_alloc _ _ _ (by simp)).trans (heap_alloc_new w _)
  have hmp : MapAt W (w.heap.size + 1) [] := by
    have := MapAt.made (w.alloc (.cells #[.pointer none, .pointer none, .slice none 0 0] 96))
    rw [hW, World.size_alloc] at this
    exact this
  have HDW := Lib.hid (hd.below hbW)
  have HFN := Lib.hid hFn
  have HDF := Lib.hid hd.lt
  have HOLD := Lib.hid (hold.below hbW)
  have hfr : ∀ k, w.heap.size ≤ k → ¬ w0.K k := fun k hk => hold.fresh hk
  have HW := Lib.hid hW
  have HN := Lib.hid hn
  have HMP := Lib.hid hmp
  have HO0 := Lib.hid h0
  have HO1 := Lib.hid h1
  have HP := Lib.hid hp
  have HIN := Lib.hid hin
  obtain ⟨n, hnn⟩ : ∃ n, w.heap.size = n := ⟨_, rfl⟩
  rw [hnn] at HN HMP hWs HDF hfr
  have HFR := Lib.hid hfr
  have HWS := Lib.hid hWs
  have HNN := Lib.hid hnn
  clear hd h0 h1 hW hbW hWs hn hmp hFn hold hp hin hfr
  unfold ptr
  go_enter Try.func13, Try.ntmps13
  go_wp2_with fail
  refine wp_loop_rounds 3 ?_
  rw [rounds_succ]
  go_wp2_with fail
  first
    | rw [HW.out]
    | skip
  refine (HO0.out.call HDW.out).mono ?_
  rintro e w1 ⟨l0, rfl, hge0, ht0⟩
  have hFn : ¬ F n := fun h => by have := HDF.out n h; omega
  have hFb : ¬ F (n + 1) := fun h => by have := HDF.out (n + 1) h; omega
  obtain ⟨F1, G0, o1, d1, g0, fg1, f1, gn1⟩ := ht0
  have hn1 : w1.heap[n]? = some (.cells #[.pointer none, .pointer none, .slice none 0 0] 96) := (o1.block n (by have := HWS.out; omega) (fun h => h.elim hFn id)).trans HN.out
  have hb1 : w1.heap[n + 1]? = W.heap[n + 1]? := o1.block (n + 1) (by have := HWS.out; omega) (fun h => h.elim hFb id)
  have HO1' := Lib.hid o1
  have HD1 := Lib.hid d1
  have HG0 := Lib.hid g0
  have HFG1 := Lib.hid fg1
  have HF1 := Lib.hid f1
  have HGN1 := Lib.hid gn1
  have HN1 := Lib.hid hn1
  have HMP1 := Lib.hid (HMP.out.kept hb1)
  have hlt1 : n < w1.heap.size := (Array.getElem?_eq_some_iff.1 hn1).1
  have hlb1 : n + 1 < w1.heap.size := HMP1.out.lt
  have c0 := cells_at hn1 0 _ rfl
  have fz0 := cells_free hn1 0
  simp only [List.getElem_toArray, List.getElem_cons_zero] at c0
  unfold ptr
  clear hn1 hb1 o1 d1 g0 fg1 f1 gn1
  go_wp2_with fail
  obtain ⟨X, hX⟩ : ∃ X, w1.setCell ⟨n, 0, none⟩ (.pointer (some ⟨l0, 0, none⟩)) = X := ⟨_, rfl⟩
  have hXn : X.heap[n]? = some (.cells #[.pointer (some ⟨l0, 0, none⟩), .pointer none, .slice none 0 0] 96) := by rw [← hX, cells_set HN1.out]; rfl
  have hoX : Only (fun k => k = n) w1 X := by rw [← hX]; exact Only.setCell (fun k => k = n) w1 ⟨n, 0, none⟩ _ rfl
  have HXM := Lib.hid (HMP1.out.kept (hoX.block (n + 1) hlb1 (by show ¬ n + 1 = n; omega)))
  have HX := Lib.hid hX
  have HXN := Lib.hid hXn
  have HOX := Lib.hid hoX
  have HDX := Lib.hid (HD1.out.only hoX (fun k hk e => by rw [show k = n from e] at hk; rcases HF1.out n hk with h | h; exact hFn h; have := HWS.out; omega))
  clear hX hXn hoX c0 fz0
  rw [HX.out, rounds_succ]
  go_wp2_with fail
  refine (HO1.out.call HDX.out).mono ?_
  rintro e w2 ⟨l1, rfl, hge1, ht1⟩
  obtain ⟨F2, G1, o2, -, -, -, f2, -⟩ := id ht1
  have hF1n : ¬ F1 n := fun h => by rcases HF1.out n h with h | h; exact hFn h; have := HWS.out; omega
  have hF1b : ¬ F1 (n + 1) := fun h => by rcases HF1.out (n + 1) h with h | h; exact hFb h; have := HWS.out; omega
  have hnX := (Array.getElem?_eq_some_iff.1 HXN.out).1
  have hn2 : w2.heap[n]? = some (.cells #[.pointer (some ⟨l0, 0, none⟩), .pointer none, .slice none 0 0] 96) := (o2.block n hnX (fun h => h.elim hF1n id)).trans HXN.out
  have hb2 : w2.heap[n + 1]? = X.heap[n + 1]? := o2.block (n + 1) HXM.out.lt (fun h => h.elim hF1b id)
  have HT1 := Lib.hid ht1
  have HN2 := Lib.hid hn2
  have HMP2 := Lib.hid (HXM.out.kept hb2)
  have hlt2 : n < w2.heap.size := (Array.getElem?_eq_some_iff.1 hn2).1
  have c1 := cells_at hn2 1 _ rfl
  have fz1 := cells_free hn2 1
  simp only [List.getElem_toArray, List.getElem_cons_zero, List.getElem_cons_succ] at c1
  unfold ptr
  clear ht1 hn2 hb2 o2 f2
  go_wp2_with fail
  obtain ⟨Y, hY⟩ : ∃ Y, w2.setCell ⟨n, 1, none⟩ (.pointer (some ⟨l1, 0, none⟩)) = Y := ⟨_, rfl⟩
  have hYn : Y.heap[n]? = some (.cells #[.pointer (some ⟨l0, 0, none⟩), .pointer (some ⟨l1, 0, none⟩), .slice none 0 0] 96) := by rw [← hY, cells_set HN2.out]; rfl
  have hoY : Only (fun k => k = n) w2 Y := by rw [← hY]; exact Only.setCell (fun k => k = n) w2 ⟨n, 1, none⟩ _ rfl
  have HYM := Lib.hid (HMP2.out.kept (hoY.block (n + 1) HMP2.out.lt (by show ¬ n + 1 = n; omega)))
  have hlb := InLiveB.ofOpen (w0 := w0) (n := n) (b := n + 1) HOLD.out HFN.out hFn hFb (HFR.out n (Nat.le_refl _)) (HFR.out (n + 1) (by omega)) (by omega) (by have := HWS.out; omega) (by have := HWS.out; omega) HO1'.out HG0.out HFG1.out HF1.out HGN1.out HOX.out HT1.out hoY hYn
  have HLB := Lib.hid hlb
  have HY := Lib.hid hY
  have d0 := cells_at hYn 0 _ rfl
  have d1 := cells_at hYn 1 _ rfl
  simp only [List.getElem_toArray, List.getElem_cons_zero, List.getElem_cons_succ] at d0 d1
  clear hY hYn hoY c1 fz1 hlb HT1 HN2 HMP2 HDX HOX HXN HX HXM HD1 HG0 HFG1 HF1 HGN1 HO1' HN1 HMP1 hF1n hF1b hnX hlt1 hlb1 hFn hFb hlt2
  rw [HY.out, rounds_succ]
  go_wp2_with fail
  have HY1 := Lib.hid (hmm)
  go_loopw [50] (fun i wr => ∃ k : Nat, k ≤ 2 ∧ i = .int .i64 (k : Int) ∧ Hid (InLiveB w0 wr n d l0 l1 (.slice none 0 0) ⟨D2, ⟨ents 0 rs, (ents 0 rs).length⟩, ⟨ents 1 rs, (ents 1 rs).length⟩, []⟩ (n + 1)) ∧ Hid (MapAt wr (n + 1) (keyed' (if k = 0 then [] else if k = 1 then pairsI 0 rs else pairsI 0 rs ++ pairsI 1 rs)))) (fun i _ => 2 - (intOf i).toNat)
  case atStart => exact ⟨0, by omega, rfl, HLB, HYM⟩
  case round =>
    obtain ⟨k, hk, rfl, HS, HM⟩ := hrel
    by_cases hk2 : k < 2
    · obtain ⟨lp, hpp⟩ := part_of (w0 := w0) (n := n) (d := d) (l0 := l0) (l1 := l1) (lv := .slice none 0 0) (D := D2) (b := n + 1) (rs' := []) HIN.out k hk2
      obtain ⟨pre, hpre⟩ : ∃ x, (if k = 0 then [] else pairsI 0 rs) = x := ⟨_, rfl⟩
      obtain ⟨P, hP⟩ : ∃ x, pairsI (k : Int) rs = x := ⟨_, rfl⟩
      have hM1 : (if k = 0 then [] else if k = 1 then pairsI 0 rs else pairsI 0 rs ++ pairsI 1 rs) = pre := by
        rw [← hpre]
        rcases (show k = 0 ∨ k = 1 by omega) with rfl | rfl <;> rfl
      have hM2 : (if k + 1 = 0 then [] else if k + 1 = 1 then pairsI 0 rs else pairsI 0 rs ++ pairsI 1 rs) = pre ++ P := by
        rw [← hpre, ← hP]
        rcases (show k = 0 ∨ k = 1 by omega) with rfl | rfl <;> rfl
      rw [hpre, hP] at hpp
      rw [hM1] at HM
      have HPP := Lib.hid hpp
      have HM2 := Lib.hid hM2
      have hkk : (k : Int) < 2 := by omega
      have hidx := hpp.idx
      have hsm := hpp.small
      have hPl : P.length ≤ 500 := by omega
      have hprel : pre.length ≤ 500 := by omega
      clear hpp hpre hP hM1 hM2 hsm
      go_wp2_with fail
      refine (HPP.out.len _ HS.out).mono ?_
      rintro e w3 ⟨rfl, rfl⟩
      clear hidx
      go_wp2_with fail
      go_loopw [11, 56] (fun last i wr => ∃ (j : Nat) (lx : Int), j ≤ P.length ∧ i = .int .i64 (j : Int) ∧ last = .int .i64 lx ∧ (∀ q, P[j]? = some q → lx < (q.1 : Int)) ∧ Hid (InLiveB w0 wr n d l0 l1 (.slice none 0 0) ⟨D2, ⟨ents 0 rs, (ents 0 rs).length⟩, ⟨ents 1 rs, (ents 1 rs).length⟩, []⟩ (n + 1)) ∧ Hid (MapAt wr (n + 1) (keyed' (pre ++ P.take j)))) (fun _ i _ => P.length - (intOf i).toNat)
      case atStart => exact ⟨0, -1, Nat.zero_le _, rfl, rfl, fun q _ => by omega, HS, by rw [List.take_zero, List.append_nil]; exact HM⟩
      case round =>
        obtain ⟨j, lx, hj, rfl, rfl, hlx, HS3, HM3⟩ := hrel
        by_cases hjP : j < P.length
        · obtain ⟨q, hq⟩ : ∃ q, P[j]? = some q := ⟨P[j], by simp [hjP]⟩
          obtain ⟨hq1, hq2, hq3, hq4⟩ := HPP.out.part q (List.mem_of_getElem? hq)
          have hq5 : q.1 < 500 := by omega
          have HNEW := Lib.hid (HPP.out.new j q hq)
          have HAT := Lib.hid (HPP.out.at' _ j q HS3.out hq)
          have HNX := Lib.hid (fun r (h : P[j + 1]? = some r) => HPP.out.less j q r hq h)
          have hlq := hlx q hq
          have HTK := Lib.hid (show P.take (j + 1) = P.take j ++ [q] by rw [List.take_add_one, hq]; rfl)
          have hjk : (j : Int) < (P.length : Int) := by omega
          have HJ := Lib.hid hjP
          obtain ⟨iq, x⟩ := q
          simp only at hq1 hq2 hq3 hq5 hlq
          have hnum := Cl.nums_put [(iq : Int), x.key, x.val] (by
            intro y hy
            simp only [List.mem_cons, List.not_mem_nil, or_false] at hy
            rcases hy with rfl | rfl | rfl
            · unfold Cl.In64; omega
            · exact hq2
            · exact hq3)
          have htl := Cl.put_len [(iq : Int), x.key, x.val]
          have hts : (entI iq x).text.size ≤ 1000000 := by
            have e : (entI iq x).text.size = (Cl.put [(iq : Int), x.key, x.val]).length := by unfold entI; exact List.size_toArray
            rw [e]
            simp at htl
            omega
          have hnn2 : Cl.nums (entI iq x).text.data.toList = ([(iq : Int), x.key, x.val], 0) := by
            rw [← hnum]
            unfold entI
            simp
          obtain ⟨T, hT⟩ : ∃ T, (entI iq x).text = T := ⟨_, rfl⟩
          rw [hT] at hts hnn2
          have HNS := Lib.hid (fun W => numbers_says T _ _ W hts hnn2)
          have HAT2 := Lib.hid HAT.out
          rw [show (entI (iq, x).1 (iq, x).2).text = T from hT] at HAT2
          have HQ2 := Lib.hid hq2
          have HQ3 := Lib.hid hq3
          clear hq hlx hnum htl hts hnn2 hT HAT hq2 hq3 hq4
          go_wp2_with fail
          refine HAT2.out.mono ?_
          rintro e w5 ⟨rfl, hb5⟩
          have HB5 := Lib.hid hb5
          clear hb5
          go_wp2_with fail
          refine (HNS.out w5).mono ?_
          rintro e w6 ⟨v, rfl, hrv, hb6⟩
          have hb56 := bel_trans HB5.out hb6
          have HS6 := Lib.hid (HS3.out.below hb56)
          have HM6 := Lib.hid (HM3.out.kept (hb56.block _ HM3.out.lt))
          obtain ⟨vb, vo, vc, rfl, -, -, hvb, hvc⟩ := hrv.some (by simp)
          have x0 := hvc 0 _ rfl
          have x1 := hvc 1 _ rfl
          have x2 := hvc 2 _ rfl
          rw [Nat.add_zero] at x0
          have hlk := HM6.out.look_none (i := (iq : Int)) (wf_small iq (by omega)) HNEW.out
          have dl : decide ((iq : Int) ≤ lx) = false := by simp; omega
          clear hrv hb6 hb56 hvc
          go_wp2_with fail
          have HROW := Lib.hid (fun (W' : World) (hb : Below w6.heap.size w6 W') => And.intro ((World.cell?_of_block (a := ⟨vb, vo, none⟩) (hb.block vb hvb)).trans x0) (And.intro ((World.cell?_of_block (a := ⟨vb, vo + 1, none⟩) (hb.block vb hvb)).trans x1) ((World.cell?_of_block (a := ⟨vb, vo + 2, none⟩) (hb.block vb hvb)).trans x2)))
          have hbU := bel_trans (bel_alloc w6 (.cells #[.int .i64 0, .int .i64 0, .int .i64 0] 32)) (bel_drew _)
          obtain ⟨U, hU⟩ : ∃ U, w6.alloc (.cells #[.int .i64 0, .int .i64 0, .int .i64 0] 32) = U := ⟨_, rfl⟩
          rw [hU] at hbU ⊢
          have HSU := Lib.hid (HS6.out.below hbU)
          have hMU := HM6.out.kept (hbU.block _ HM6.out.lt)
          have hlU : (keyed' (pre ++ P.take j)).length < 1000000 := by
            unfold keyed'
            rw [List.length_map, List.length_append, List.length_take]
            omega
          obtain ⟨V, hst, hMV, hoV⟩ := hMU.store hlU (i := (iq : Int)) (wf_small iq (by omega)) HNEW.out x
          obtain ⟨xp, xk, xv⟩ := x
          simp only at hq1
          subst hq1
          unfold InR.val' at hst
          have HMV := Lib.hid hMV
          have HOV := Lib.hid hoV
          have HBU := Lib.hid hbU
          clear hlk dl x0 x1 x2 hMU hMV hoV hlU hbU
          refine wp_region_free [0, 1, 2, 3, 4, 5, 6, 7, 8, 9] 10 (fun W' => Below w6.heap.size w6 W') (by kernel_rfl) (by kernel_rfl) ?_
          change wpYields _ _ _ _ [_, _, _, _, _, _, _, _, _, _] _
          iterate 10 (refine yields_step (fun K hK => ?_); apply Exists.intro; apply And.intro; (apply yields_at rfl; rintro W' hb; obtain ⟨z0, z1, z2⟩ := HROW.out W' hb; go_simp; first | done | rfl); go_simp; refine hK _ ?_; clear hK K)
          refine yields_nil ?_
          refine anyP_leaf HBU.out (by kernel_rfl) ?_
          simp only [List.drop_succ_cons, List.drop_zero]
          clear hU
          go_wp2_with fail
          go_roundw
          case rel => exact ⟨j + 1, iq, HJ.out, by go_num, rfl, fun r hr => by have h9 : iq < r.1 := HNX.out r hr; omega, Lib.hid (HSU.out.map HOV.out), Lib.hid (by rw [HTK.out, ← List.append_assoc]; unfold keyed'; rw [List.map_append]; exact HMV.out)⟩
          case measure => have := HJ.out; simp [intOf]; omega
        · obtain rfl : j = P.length := by omega
          have hjk : ¬ (P.length : Int) < (P.length : Int) := by omega
          go_wp2_with fail
          go_roundw
          case rel => exact ⟨k + 1, by omega, by go_num, HS3, by rw [HM2.out]; rw [List.take_length] at HM3; exact HM3⟩
          case measure => simp [intOf]; omega
    · obtain rfl : k = 2 := by omega
      have hnk : ¬ ((2 : Nat) : Int) < 2 := by omega
      obtain ⟨M, hM⟩ : ∃ M, keyed' (if (2 : Nat) = 0 then [] else if (2 : Nat) = 1 then pairsI 0 rs else pairsI 0 rs ++ pairsI 1 rs) = M := ⟨_, rfl⟩
      rw [hM] at HM
      obtain ⟨Q, hQ⟩ : ∃ Q, rs.length = Q := ⟨_, rfl⟩
      have hMl : M.length = Q := by
        rw [← hM]
        show (keyed' (pairsI 0 rs ++ pairsI 1 rs)).length = Q
        unfold keyed' pairsI
        rw [List.length_map, List.length_append, pairsN_len rs HP.out 0, hQ]
      have HLK := Lib.hid (show ∀ (j : Nat) x, rs[j]? = some x → look M (j : Int) = some x from fun j x h => by rw [← hM]; exact look_all rs HP.out j x h)
      have hml := fun ty => HM.out.len ty
      rw [hMl] at hml
      rw [hQ] at hlen
      have hd5 : decide ((500 : Int) < (Q : Int)) = false := by simp; omega
      have HQQ := Lib.hid hQ
      clear hM hQ hMl
      go_upto_region 32 with fail
      have HS0 := Lib.hid (show InLiveB w0 wr n d l0 l1 (.slice none 0 0) ⟨D2, ⟨ents 0 rs, (ents 0 rs).length⟩, ⟨ents 1 rs, (ents 1 rs).length⟩, rs.take 0⟩ (n + 1) from HS.out)
      clear hml hd5 HS
      go_loopw [118] (fun i wr => ∃ (j : Nat) (lv : Value), j ≤ Q ∧ i = .int .i64 (j : Int) ∧ Hid (InLiveB w0 wr n d l0 l1 lv ⟨D2, ⟨ents 0 rs, (ents 0 rs).length⟩, ⟨ents 1 rs, (ents 1 rs).length⟩, rs.take j⟩ (n + 1)) ∧ Hid (MapAt wr (n + 1) M)) (fun i _ => Q - (intOf i).toNat)
      case atStart => exact ⟨0, _, Nat.zero_le _, rfl, HS0, HM⟩
      case round =>
        obtain ⟨j, lv, hj, rfl, HS3, HM3⟩ := hrel
        obtain ⟨hcn, hrow, hne⟩ := HS3.out.live.cells
        by_cases hjQ : j < Q
        · obtain ⟨x, hx⟩ : ∃ x, rs[j]? = some x := ⟨rs[j]'(by rw [HQQ.out]; omega), by simp⟩
          have hlk := HM3.out.look_some (wf_small j (by omega)) (HLK.out j x hx)
          have hjk : (j : Int) < (Q : Int) := by omega
          obtain ⟨xp, xk, xv⟩ := x
          unfold InR.val' at hlk
          simp only at hlk
          have HX := Lib.hid hx
          have HCN := Lib.hid hcn
          have HROW := Lib.hid hrow
          have HNE := Lib.hid hne
          clear hx hcn hrow hne
          go_upto_region 37 with fail
          obtain ⟨i0, hi0, hz0, hz1, hz2⟩ := info_parts infoIn
          have hbU := bel_alloc wr (.cells #[.int .i64 xp, .int .i64 xk, .int .i64 xv] 32)
          have hbx := heap_alloc_new wr (.cells #[.int .i64 xp, .int .i64 xk, .int .i64 xv] 32)
          obtain ⟨bx, hbxx⟩ : ∃ b, wr.heap.size = b := ⟨_, rfl⟩
          obtain ⟨U, hU⟩ : ∃ U, wr.alloc (.cells #[.int .i64 xp, .int .i64 xk, .int .i64 xv] 32) = U := ⟨_, rfl⟩
          have HBXX := Lib.hid hbxx
          have hUs : U.heap.size = bx + 1 := by rw [← hU, ← hbxx]; simp
          rw [hU] at hbU hbx ⊢
          rw [hbxx] at hbx ⊢
          have HS4 := Lib.hid (HS3.out.below hbU)
          have HM4 := Lib.hid (HM3.out.kept (hbU.block _ HM3.out.lt))
          obtain ⟨hcn, hrow, hne⟩ := HS4.out.live.cells
          have hjl : (rs.take j).length = j := by rw [List.length_take, HQQ.out]; omega
          have hrow' : RowAt U 32 3 lv j (inCells (rs.take j)) := by have := hrow; simp only [hjl] at this; exact this
          obtain ⟨la, lc, rfl⟩ := hrow'.reads.shape
          have hnlt := (Array.getElem?_eq_some_iff.1 hcn).1
          have hblt := (Array.getElem?_eq_some_iff.1 hbx).1
          have HCN2 := Lib.hid hcn
          have HBX := Lib.hid hbx
          have HROW2 := Lib.hid hrow'
          have HNE2 := Lib.hid hne
          have HJL := Lib.hid hjl
          clear hcn hrow hne hrow' hbx hU hbxx hlk hbU
          refine wp_region_free [0, 1, 2, 3, 4, 5] 8 (fun W' => W'.heap[n]? = U.heap[n]? ∧ W'.heap[bx]? = U.heap[bx]?) (by kernel_rfl) (by kernel_rfl) ?_
          change wpYields _ _ _ _ [_, _, _, _, _, _] _
          iterate 6 (refine yields_step (fun K hK => ?_); apply Exists.intro; apply And.intro; (apply yields_at rfl; rintro W' hb; have y := hb.1.trans HCN2.out; have y2 := cells_at y 2 _ rfl; have z := hb.2.trans HBX.out; have z0 := cells_at z 0 _ rfl; have z1 := cells_at z 1 _ rfl; have z2 := cells_at z 2 _ rfl; simp only [List.getElem_toArray, List.getElem_cons_zero, List.getElem_cons_succ] at y2 z0 z1 z2; go_simp; first | done | rfl); go_simp; refine hK _ ?_; clear hK K)
          refine yields_nil ?_
          refine anyP_one (k := 6) (by kernel_rfl) (by decide) rfl rfl ⟨rfl, rfl⟩ ?_
          refine wpP_step rfl (fun K hK => ?_)
          go_simp
          refine hK _ _ ?_
          clear hK K
          have hnews := heap_alloc_new U (.cells #[.int .i64 xp, .int .i64 xk, .int .i64 xv] 32)
          rw [hUs] at hnews
          have hbV := bel_trans (bel_alloc U (.cells #[.int .i64 xp, .int .i64 xk, .int .i64 xv] 32)) (bel_drew _)
          have hone : ∀ u ∈ [Value.int .i64 xp, .int .i64 xk, .int .i64 xv], u.oneCell' = true := by simp [Value.oneCell']
          refine anyP_one (k := 7) (by kernel_rfl) (by decide) rfl rfl ⟨hbV.block n hnlt, hbV.block bx hblt⟩ ?_
          refine wpP_step rfl (fun K hK => ?_)
          refine step_append_row rfl _ _ 39 rfl 32 i0 _ 3 24 Try.underlying39 hi0 hz0 hz1 hz2 rfl (by omega) (.slice la j lc) j (inCells (rs.take j)) (by rfl) (HROW2.out.kept (fun g hg => by
            obtain ⟨cur, hcur⟩ := HROW2.out.type g hg
            exact hbV.block g (Array.getElem?_eq_some_iff.1 hcur).1)) ⟨bx + 1, 0, none⟩ 1 1 [.int .i64 xp, .int .i64 xk, .int .i64 xv] rfl rfl (World.news_of_block (cs := #[.int .i64 xp, .int .i64 xk, .int .i64 xv]) (t := 32) (fr := (0, 0)) hnews) hone (by omega) (by unfold maxLen; omega) (by omega) ?_
          intro gg cap w9 hown hgrow hat hltg
          refine hK _ _ ?_
          clear hK K
          have hn9 : w9.heap[n]? = U.heap[n]? := (hgrow.block n (by have := hbV.size; omega) (Ne.symm HNE2.out)).trans (hbV.block n hnlt)
          have hb9 : w9.heap[bx]? = U.heap[bx]? := (hgrow.block bx (by have := hbV.size; omega) (fun e => by
            obtain ⟨cur, hcur⟩ := HROW.out.type bx e.symm
            have := (Array.getElem?_eq_some_iff.1 hcur).1
            have := HBXX.out
            omega)).trans (hbV.block bx hblt)
          have hrw := HS4.out.row (x := ⟨xp, xk, xv⟩) (g := gg) (cap := cap) hbV hgrow (by rw [HJL.out]; exact hown) (by rcases hat with h | h; exact .inl h; exact .inr (by omega)) hltg
          refine anyP_leaf ⟨hn9, hb9⟩ (by kernel_rfl) ?_
          simp only [List.drop_succ_cons, List.drop_zero]
          have y := hn9.trans HCN2.out
          have y2 := cells_at y 2 _ rfl
          have yf := cells_free y 2
          simp only [List.getElem_toArray, List.getElem_cons_zero, List.getElem_cons_succ] at y2
          obtain ⟨hr1, hr2⟩ := hrw
          have htk : rs.take (j + 1) = rs.take j ++ [⟨xp, xk, xv⟩] := by rw [List.take_add_one, HX.out]; rfl
          have HR1 := Lib.hid hr1
          have HM5 := Lib.hid (HM4.out.kept hr2)
          have HTK := Lib.hid htk
          clear hr1 hr2 htk hgrow hat hltg hown y hn9 hb9 hnews hbV hone
          go_wp2_with fail
          go_roundw
          case rel =>
            refine ⟨j + 1, .slice (some ⟨gg, 0, none⟩) (j + 1) cap, by omega, by go_num, Lib.hid ?_, ?_⟩
            rotate_left
            · have := HM5.out
              rw [HJL.out] at this
              exact Lib.hid this
            · have := HR1.out
              rw [HJL.out] at this
              unfold InSt.row at this
              rw [HTK.out]
              exact this
          case measure => simp [intOf]; omega
        · obtain rfl : j = Q := by omega
          have hnj : ¬ (j : Int) < (j : Int) := by omega
          go_wp2_with fail
          go_ret2
          exact ⟨n, rfl, l0, l1, lv, by have h9 := HS3.out.live; rwa [List.take_of_length_le (by rw [HQQ.out]; exact Nat.le_refl _)] at h9⟩

end Go.Proofs.Ytllecjhfbojgcaa
