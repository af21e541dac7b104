/-
  The output's Tell walked.
-/
import Derived.Test.YtllecjhfbojgcaaOutMark
namespace Go.Proofs.Ytllecjhfbojgcaa
open Go.RowKit
set_option maxRecDepth 20000

theorem infoOut : (Try.prog.info? 84).map (fun i => (i.zero, i.size, i.bytes)) = some (some (.agg #[.int .i64 0, .int .i64 0]), 2, 16) := by kernel_rfl
theorem reads_ad {w : World} {a : Option Addr} {n c : Nat} {xs : List Value} (h : Reads w (.slice a n c) n xs) : ∀ b, a = some b → ∀ j u, xs[j]? = some u → w.cell? (b.add j) = some u := fun b hb j u hj => by
  rcases h with ⟨a', k, h1, h2, h3⟩ | ⟨b', o, k, h1, h2, h3, h4, h5⟩
  · rw [h3] at hj; simp at hj
  · cases h1
    cases hb
    rw [addr_add]
    exact h5 j u hj
theorem ints_ocell (l : List Int) : ∀ u ∈ ints l, u.oneCell' = true := fun u hu => by
  obtain ⟨n, -, rfl⟩ := List.mem_map.1 hu
  rfl

theorem eql_none (n c : Nat) (w : World) : (binOp .eql 73 (.slice none n c) (.slice none 0 0)).run Try.prog w = .ok (.bool true) w := by kernel_rfl
theorem eql_some (a : Addr) (n c : Nat) (w : World) : (binOp .eql 73 (.slice (some a) n c) (.slice none 0 0)).run Try.prog w = .ok (.bool false) w := by kernel_rfl
set_option maxHeartbeats 4000000 in
theorem oclone_any (w : World) (v : Value) (l : List OutX) (hr : Reads w v l.length (outCells l)) (hl : l.length ≤ 1000000) :
    Calls Try.prog 72 #[v] w fun e w' => ∃ v', e = .returned v' ∧ w'.ownsRow w.heap.size 84 2 v' l.length (outCells l) ∧ Below w.heap.size w w' := by
  obtain ⟨i0, hi0, hz0, hz1, hz2⟩ := info_parts infoOut
  obtain ⟨a, c, rfl⟩ := hr.shape
  obtain ⟨m, hm⟩ : ∃ m, l.length = m := ⟨_, rfl⟩
  have HL := Lib.hid (outCells_len l)
  have HR := Lib.hid hr
  have HM := Lib.hid hm
  rw [hm] at HR hl HL ⊢
  clear hr hm
  cases a with
  | none =>
    have hm0 : m = 0 := by
      rcases HR.out with ⟨_, _, h1, h2, h3⟩ | ⟨b, o, k, h1, -⟩
      · exact h2
      · cases h1
    subst hm0
    have hcs : outCells l = [] := List.eq_nil_of_length_eq_zero (by rw [HL.out])
    rw [hcs]
    have HC := Lib.hid hcs
    clear hcs
    have hq := eql_none 0 c
    go_enter Try.func72, Try.ntmps72
    go_wp2_with fail
    go_ret
    exact ⟨.slice none 0 0, rfl, World.ownsRow_nil _ _ _ _, Below.refl _ _⟩
  | some ad =>
    have hown0 := World.ownsRow_lit (base := w.heap.size) (e := 84) (size := 2) w #[] 0 (Nat.le_refl _) (Nat.zero_le _) rfl
    have HOWN := Lib.hid hown0
    have hnw : ∀ j u, (outCells l)[j]? = some u → (w.alloc (.cells #[] 84)).cell? (ad.add j) = some u := fun j u hj => reads_ad (HR.out.below (bel_alloc w _)) ad rfl j u hj
    have HNW := Lib.hid hnw
    have HON := Lib.hid (ints_ocell (flatO l))
    clear hown0 hnw
    have hq := eql_some ad m c
    go_enter Try.func72, Try.ntmps72
    go_wp2_with (at_builtin; refine wpList_append_own _ rfl _ _ 73 rfl w.heap.size 84 i0 (.agg #[.int .i64 0, .int .i64 0]) 2 16 Try.underlying73 hi0 hz0 hz1 hz2 rfl (by decide) (.slice (some ⟨w.heap.size, 0, none⟩) 0 0) 0 [] (by rfl) HOWN.out ad m c (outCells l) (by rfl) (by rw [HL.out]) HNW.out HON.out (by unfold maxLen; omega) (by omega) (by simp) ?_)
    intro v' w' hown hgr _
    have hb := ((Below.refl w.heap.size w).alloc (Nat.le_refl _) (.cells #[] 84)).grown hgr (by simp) (fun k hk => by simp only [Value.ownBlock, Option.some.injEq] at hk; omega)
    obtain ⟨a2, c2, rfl⟩ := (Reads.own hown).shape
    have HO := Lib.hid hown
    have HB := Lib.hid hb
    clear hown hgr hb
    go_wp2_with fail
    go_ret
    exact ⟨_, rfl, HO.out, HB.out⟩

theorem own_out {w : World} {base n : Nat} {v : Value} {xs : List Value} (h : w.ownsRow base 84 2 v n xs) : ∀ g, v.ownBlock = some g → base ≤ g ∧ g < w.heap.size ∧ ∃ cur, w.heap[g]? = some (.cells cur 84) := fun g hg => by
  rcases h.2 with ⟨h1, -⟩ | ⟨g', cap, cur, h1, h2, h3, -⟩
  · rw [h1] at hg; cases hg
  · rw [h1] at hg
    simp only [Value.ownBlock, Option.some.injEq] at hg
    subst hg
    exact ⟨h2, (Array.getElem?_eq_some_iff.1 h3).1, cur, h3⟩

theorem otell_nil (i n : Int) (v : Value) (w : World) : Calls Try.prog 36 #[.pointer none, .int .i64 i, .int .i64 n, v] w fun e w' => e = .returned (.int .i64 1) ∧ w = w' := by
  go_enter Try.func36, Try.ntmps36
  go_wp2_with fail
  go_ret
  exact ⟨rfl, rfl⟩
theorem otell_no (o : Nat) (i n : Int) (hi : ¬ (0 ≤ i ∧ i < 2)) (v : Value) (w : World) : Calls Try.prog 36 #[ptr o 0, .int .i64 i, .int .i64 n, v] w fun e w' => e = .returned (.int .i64 2) ∧ w = w' := by
  have e : (decide (0 ≤ i) && decide (i < 2)) = false := by
    rw [← Bool.decide_and]; exact decide_eq_false hi
  have his := is_some o i w
  rw [e] at his
  clear e
  unfold ptr at his ⊢
  go_enter Try.func36, Try.ntmps36
  go_wp2_with fail
  refine (his).mono ?_
  rintro e w' ⟨rfl, rfl⟩
  go_wp2_with fail
  go_ret
  exact ⟨rfl, rfl⟩

/-- A call's value is put. -/
theorem oput_live {fr : Fr} {w : World} {o d : Nat} {S : OSt} {j : Nat} {K : Nat → Prop} (p : Bool) (r : ORec) (v : Value) (h : OutK fr w o d S (fun k => v.ownBlock = some k ∨ K k)) (hdis : ∀ k, v.ownBlock = some k → ¬ K k) (hf : OFit j S) (hj : j ≤ 40000) (hv : Reads w v r.l.length (outCells r.l)) (hvo : ∀ g, v.ownBlock = some g → ¬ fr.K g ∧ ∃ cur, w.heap[g]? = some (.cells cur 84))
    (hrn : Cl.In64 r.n) (hrl : OIn r.l) (hrk : r.l.length ≤ 1000) (kz : Int) (hkz : (r.kind.toNat : Int) = kz) :
    ∃ bp, (∀ W, Below w.heap.size w W → W.cell? ⟨o, (if p then 1 else 0), none⟩ = some (ptr bp 0)) ∧ ∀ W, Below w.heap.size w W → Calls Try.prog 73 #[ptr bp 0, .agg #[.int .u8 kz, .int .i64 r.n, v]] W fun e w' => e = .returned (.int .i64 (S.put p r).1) ∧ OutK fr w' o d (S.put p r).2 K ∧ (∀ k, K k → w'.heap[k]? = w.heap[k]?) ∧ w.heap.size ≤ w'.heap.size := by
  obtain ⟨b, l, col, h, h2⟩ := h
  obtain ⟨f1, f2, f3⟩ := hf.big hj p
  have hKl : ∀ k, K k → k < w.heap.size := fun k hk => (h2 k (.inr hk)).2
  have hF : OutAt (fr.more h.old K hKl) w o d b l S col := ⟨Since.refl _ _ _, fun k hk => hk.elim (h.keep k) (fun e => (h2 k (.inr e)).1), h.lt, h.disk, h.log, h.part, h.cell, h.co⟩
  obtain ⟨c2, hA, hc2, -⟩ := hF.adopt p (fun k => v.ownBlock = some k) (fun k hk => ⟨(h2 k (.inl hk)).1, fun e => e.elim (hvo k hk).1 (hdis k hk), (h2 k (.inl hk)).2⟩)
  refine ⟨b p, fun W hW => (h.below hW).cells p, fun W hW => ?_⟩
  have hvo2 : OwnsOut w v (fun k => c2 k = cP p) := fun k hk => ⟨hc2 k hk, (hvo k hk).2⟩
  refine (oput_any (hA.below hW) p r v (hv.below hW) (hvo2.kept (fun k hk => hW.block k (hA.lt k (by rw [hk]; exact (cP_ne p).1)))) hrn hrl hrk f1 f2 f3 kz hkz).mono ?_
  rintro e w' ⟨h3, c3, h4⟩
  exact ⟨h3, OutLive.back ⟨b, l, c3, h4⟩⟩

theorem reads_cap {w : World} {a : Option Addr} {n c : Nat} {xs : List Value} (h : Reads w (.slice a n c) n xs) : n ≤ c := by
  rcases h with ⟨a', k', h1, h2, h3⟩ | ⟨b', o, k', h1, h2, h3, h4, h5⟩
  · omega
  · cases h1; exact h2
def lenOf : Value → Nat
  | .slice _ n _ => n
  | _ => 0
theorem tells_step (p : Bool) (n : Int) (f : Nat) (S : OSt) (l : List OutX) : OSt.tells p n (f + 1) S l = if (S.put p ⟨1, n, l.take 1000⟩).1 ≠ 0 then S.put p ⟨1, n, l.take 1000⟩ else if l.length ≤ 1000 then (0, (S.put p ⟨1, n, l.take 1000⟩).2) else OSt.tells p n f (S.put p ⟨1, n, l.take 1000⟩).2 (l.drop 1000) := rfl
/-- The beginning of a row. -/
theorem reads_take {w : World} {a : Option Addr} {n c : Nat} {l : List OutX} (h : Reads w (.slice a n c) n (outCells l)) (k : Nat) (hk : k ≤ n) : Reads w (.slice a k c) k (outCells (l.take k)) := by
  rcases h with ⟨a', k', h1, h2, h3⟩ | ⟨b', o, k', h1, h2, h3, h4, h5⟩
  · cases h1
    have hk0 : k = 0 := by omega
    subst hk0
    exact .inl ⟨_, _, rfl, rfl, rfl⟩
  · cases h1
    refine .inr ⟨b', o, _, rfl, by omega, h3, h4, fun i u hu => ?_⟩
    have hcs : outCells (l.take k) = (outCells l).take (k * 2) := by unfold outCells ints; rw [flatO_take, List.map_take]
    rw [hcs] at hu
    have hlt := (List.getElem?_eq_some_iff.1 hu).1
    rw [List.length_take] at hlt
    rw [List.getElem?_take_of_lt (by omega)] at hu
    exact h5 i u hu
theorem reads_drop {w : World} {b o n c : Nat} {l : List OutX} (h : Reads w (.slice (some ⟨b, o, none⟩) n c) n (outCells l)) (k : Nat) (hk : k ≤ n) (hn : 0 < n) : Reads w (.slice (some ⟨b, o + k * 2, none⟩) (n - k) (c - k)) (n - k) (outCells (l.drop k)) := by
  obtain ⟨b', o', k', h1, h2, h3, h4, h5⟩ := h.some hn
  cases h1
  refine .inr ⟨b, o + k * 2, _, rfl, by omega, by omega, h4, fun i u hu => ?_⟩
  have hcs : outCells (l.drop k) = (outCells l).drop (k * 2) := by unfold outCells ints; rw [flatO_drop, List.map_drop]
  rw [hcs, List.getElem?_drop] at hu
  rw [Nat.add_assoc]
  exact h5 _ u hu

set_option maxHeartbeats 16000000 in
set_option maxRecDepth 100000 in
theorem otell_any {fr : Fr} {w : World} {o d : Nat} {S : OSt} {j : Nat} (h : OutLive fr w o d S) (hf : OFit j S) (hj : j ≤ 30000) (p : Bool) (n : Int) (hn : Cl.In64 n) (v : Value) (l : List OutX) (hr : Reads w v l.length (outCells l)) (hvK : ∀ g, v.ownBlock = some g → fr.K g) (hin : OIn l) (hl : l.length ≤ 5000) :
    Calls Try.prog 36 #[ptr o 0, .int .i64 (iP p), .int .i64 n, v] w fun e w' => e = .returned (.int .i64 (S.tell p n l).1) ∧ OutLive fr w' o d (S.tell p n l).2 := by
  have hT := told_any h p
  have HM := Lib.hid (fun (X : World) (hX : Below w.heap.size w X) => marked_any (h.below hX) p)
  have hcp : decide (0 ≤ iP p) = true ∧ decide (iP p < 2) = true := by cases p <;> decide
  have his := is_some o (iP p) w
  rw [hcp.1, hcp.2] at his
  have HZ := Lib.hid (show S.tell p n l = if n ≤ lastO (S.r p) 1 ∨ n ≤ lastO (S.r p) 2 then (2, S) else OSt.tells p n (l.length / 1000 + 1) S l from rfl)
  obtain ⟨Z, hZ⟩ : ∃ Z, S.tell p n l = Z := ⟨_, rfl⟩
  rw [hZ] at HZ ⊢
  obtain ⟨A, hA⟩ : ∃ A, lastO (S.r p) 1 = A := ⟨_, rfl⟩
  obtain ⟨B, hB⟩ : ∃ B, lastO (S.r p) 2 = B := ⟨_, rfl⟩
  rw [hA] at hT HZ
  rw [hB] at HM HZ
  obtain ⟨ip, hip⟩ : ∃ i, iP p = i := ⟨_, rfl⟩
  have hipp : ip = 0 ∨ ip = 1 := by rw [← hip]; cases p <;> simp [iP]
  rw [hip] at hT HM his ⊢
  have HIP := Lib.hid hip
  have HT := Lib.hid hT
  have HS := Lib.hid his
  have HH := Lib.hid h
  have HR := Lib.hid hr
  have HF := Lib.hid hf
  have HIN := Lib.hid hin
  have HVK := Lib.hid hvK
  unfold ptr at HT HM HS ⊢
  clear h hf hr hvK hin hT his hZ hA hB hcp hip
  obtain ⟨va, vc, rfl⟩ := HR.out.shape
  obtain ⟨m, hmm⟩ : ∃ m, l.length = m := ⟨_, rfl⟩
  have HMM := Lib.hid hmm
  rw [hmm] at HR hl HZ HVK ⊢
  clear hmm
  by_cases c1 : n ≤ A
  · have hz : Z = (2, S) := by rw [HZ.out, if_pos (.inl c1)]
    have HZ2 := Lib.hid hz
    clear hz
    go_enter Try.func36, Try.ntmps36
    go_wp2_with fail
    refine HS.out.mono ?_
    rintro e w1 ⟨rfl, rfl⟩
    go_wp2_with fail
    refine HT.out.mono ?_
    rintro e w1 ⟨rfl, hb1⟩
    have HB1 := Lib.hid hb1
    clear hb1
    go_wp2_with fail
    go_ret
    rw [HZ2.out]
    exact ⟨rfl, HH.out.below HB1.out⟩
  · have d1 : ¬ n ≤ A := c1
    by_cases c2 : n ≤ B
    · have hz : Z = (2, S) := by rw [HZ.out, if_pos (.inr c2)]
      have HZ2 := Lib.hid hz
      clear hz
      go_enter Try.func36, Try.ntmps36
      go_wp2_with fail
      refine HS.out.mono ?_
      rintro e w1 ⟨rfl, rfl⟩
      go_wp2_with fail
      refine HT.out.mono ?_
      rintro e w1 ⟨rfl, hb1⟩
      have HB1 := Lib.hid hb1
      clear hb1
      go_wp2_with fail
      refine (HM.out w1 HB1.out).mono ?_
      rintro e w2 ⟨rfl, hb2⟩
      have HB2 := Lib.hid (bel_trans HB1.out hb2)
      clear hb2
      go_wp2_with fail
      go_ret
      rw [HZ2.out]
      exact ⟨rfl, HH.out.below HB2.out⟩
    · have hz : Z = OSt.tells p n (m / 1000 + 1) S l := by rw [HZ.out, if_neg (by omega)]
      have HZ2 := Lib.hid hz
      clear hz
      go_enter Try.func36, Try.ntmps36
      go_wp2_with fail
      refine HS.out.mono ?_
      rintro e w1 ⟨rfl, rfl⟩
      go_wp2_with fail
      refine HT.out.mono ?_
      rintro e w1 ⟨rfl, hb1⟩
      have HB1 := Lib.hid hb1
      clear hb1
      go_wp2_with fail
      refine (HM.out w1 HB1.out).mono ?_
      rintro e w2 ⟨rfl, hb2⟩
      have HH2 := Lib.hid (HH.out.below (bel_trans HB1.out hb2))
      have HR2 := Lib.hid (HR.out.below (bel_trans HB1.out hb2))
      clear hb2
      go_wp2_with fail
      go_loopw [3] (fun lv wr => ∃ (S' : OSt) (rest : List OutX) (j' m' : Nat) (va' : Option Addr) (vc' : Nat), lv = .slice va' m' vc' ∧ Hid (rest.length = m') ∧ Hid (Z = OSt.tells p n (m' / 1000 + 1) S' rest) ∧ Hid (OutLive fr wr o d S') ∧ Hid (OFit j' S') ∧ j' + m' / 1000 ≤ 30010 ∧ Hid (Reads wr (.slice va' m' vc') m' (outCells rest)) ∧ Hid (∀ g, (Value.slice va' m' vc').ownBlock = some g → fr.K g) ∧ Hid (OIn rest) ∧ m' ≤ 5000) (fun lv _ => lenOf lv)
      case atStart => exact ⟨S, l, j, m, va, vc, rfl, HMM, HZ2, HH2, HF, by omega, HR2, HVK, HIN, hl⟩
      case round =>
        clear HZ HH HF HR HIN HVK HM HT HS HB1 HH2 HR2 HMM HZ2 hl hj
        obtain ⟨S', rest, j', m', va', vc', rfl, HMM, HZ, HH, HF, hj, HR, HVK, HIN, hl⟩ := hrel
        have htl := HZ.out
        rw [tells_step] at htl
        have hold := HH.out.old
        have hpr : ∀ (X : World), Since fr X → ∀ {n' : Nat} {xs : List Value}, Reads wr (.slice va' n' vc') n' xs → Reads X (.slice va' n' vc') n' xs := fun X hX n' xs hx => by
          rcases hx with hx | ⟨b, o, k, h1, h2, h3, h4, h5⟩
          · exact .inl hx
          · cases h1
            have hk := HVK.out b rfl
            exact .inr ⟨b, o, _, rfl, h2, h3, Nat.lt_of_lt_of_le (fr.lt b hk) hX.size, fun i u hu => (World.cell?_of_block ((hX.block b hk).trans (hold.block b hk).symm)).trans (h5 i u hu)⟩
        have HPR := Lib.hid (fun (X : World) (hX : Since fr X) (hx : Reads wr (.slice va' m' vc') m' (outCells rest)) => hpr X hX hx)
        have HIPN := Lib.hid (show ip.toNat = (if p then 1 else 0) by rw [← HIP.out]; cases p <;> rfl)
        clear hpr
        by_cases hm : m' ≤ 1000
        · have htk : rest.take 1000 = rest := List.take_of_length_le (by rw [HMM.out]; exact hm)
          rw [htk, HMM.out, if_pos hm] at htl
          have HTL := Lib.hid htl
          clear htk
          have hcl := oclone_any wr _ rest (by rw [HMM.out]; exact HR.out) (by rw [HMM.out]; omega)
          rw [HMM.out] at hcl
          have HCL := Lib.hid hcl
          have hmin : min (m' : Int) 1000 = (m' : Int) := by omega
          have hcap : (m' : Int) ≤ (vc' : Int) := by have := reads_cap HR.out; omega
          have HTKL := HMM
          have HINR := HIN
          clear htl hold hcl
          go_wp2_with fail
          refine HCL.out.mono ?_
          rintro e w3 ⟨v3, rfl, hown3, hb3⟩
          have hov := own_out hown3
          have hrd3 := Reads.own hown3
          obtain ⟨a3, c3, rfl⟩ := hrd3.shape
          obtain ⟨W, hW⟩ : ∃ W, w3.alloc (.cells #[.int .u8 1, .int .i64 n, .slice a3 m' c3] 142) = W := ⟨_, rfl⟩
          have hbW : Below w3.heap.size w3 W := by rw [← hW]; exact bel_alloc _ _
          have hbox : W.heap[w3.heap.size]? = some (.cells #[.int .u8 1, .int .i64 n, .slice a3 m' c3] 142) := by rw [← hW]; exact heap_alloc_new w3 _
          have hbl := (Array.getElem?_eq_some_iff.1 hbox).1
          have hs3 := hb3.size
          have hOK := (HH.out.keep.grow (bel_trans hb3 hbW)).less (K' := fun k => (Value.slice a3 m' c3).ownBlock = some k ∨ k = w3.heap.size) (fun k hk => .inr (by
            rcases hk with hk | hk
            · have := hov k hk; exact ⟨this.1, by omega⟩
            · exact ⟨by omega, by omega⟩))
          obtain ⟨bp, hcell, hput⟩ := oput_live (K := fun k => k = w3.heap.size) p ⟨1, n, rest⟩ (.slice a3 m' c3) hOK (fun k hk e => by have := hov k hk; omega) HF.out (by omega) (by rw [show (ORec.mk 1 n (rest)).l.length = m' from HTKL.out]; exact hrd3.below hbW)
            (fun k hk => ⟨HH.out.old.fresh (hov k hk).1, by obtain ⟨h1, h2, cur, h3⟩ := hov k hk; exact ⟨cur, (hbW.block k h2).trans h3⟩⟩) hn HINR.out (show (rest).length ≤ 1000 by rw [HTKL.out]; omega) 1 (show (((1 : UInt8).toNat : Nat) : Int) = 1 by decide)
          have hcl2 := fun X hX => hcell X hX
          rw [← HIPN.out] at hcl2
          have HROW := Lib.hid (fun (X : World) (hX : Below W.heap.size W X) => And.intro (hcl2 X hX) (And.intro ((World.cell?_of_block (a := ⟨w3.heap.size, 0, none⟩) (hX.block w3.heap.size hbl)).trans (cells_at hbox 0 _ rfl)) (And.intro ((World.cell?_of_block (a := ⟨w3.heap.size, 1, none⟩) (hX.block w3.heap.size hbl)).trans (cells_at hbox 1 _ rfl)) ((World.cell?_of_block (a := ⟨w3.heap.size, 2, none⟩) (hX.block w3.heap.size hbl)).trans (cells_at hbox 2 _ rfl)))))
          have HPUT := Lib.hid hput
          have HBOX := Lib.hid hbox
          have HW := Lib.hid hW
          have HFP := Lib.hid (HF.out.put p ⟨1, n, rest⟩ (show (rest).length ≤ 1000 by rw [HTKL.out]; omega))
          obtain ⟨E, T, hET⟩ : ∃ E T, S'.put p ⟨1, n, rest⟩ = (E, T) := ⟨_, _, rfl⟩
          rw [hET] at HPUT HTL HFP
          unfold ptr at HROW HPUT
          simp only [List.getElem_toArray, List.getElem_cons_zero, List.getElem_cons_succ] at HROW
          clear hown3 hb3 hov hrd3 hW hbW hbox hbl hs3 hOK hcell hput hcl2 hET
          go_upto_region 6 with fail
          rw [HW.out]
          rcases hipp with rfl | rfl
          · replace HROW : Hid (∀ X, Below W.heap.size W X → X.cell? ⟨o, 0, none⟩ = some (.pointer (some ⟨bp, 0, none⟩)) ∧ X.cell? ⟨w3.heap.size, 0, none⟩ = some (.int .u8 1) ∧ X.cell? ⟨w3.heap.size, 1, none⟩ = some (.int .i64 n) ∧ X.cell? ⟨w3.heap.size, 2, none⟩ = some (.slice a3 m' c3)) := HROW
            refine wp_region_free [0, 1, 2, 3, 4, 5, 6] 7 (fun W' => Below W.heap.size W W') (by kernel_rfl) (by kernel_rfl) ?_
            change wpYields _ _ _ _ [_, _, _, _, _, _, _] _
            iterate 7 (refine yields_step (fun K hK => ?_); apply Exists.intro; apply And.intro; (apply yields_at rfl; rintro W' hb; obtain ⟨z0, z1, z2, z3⟩ := HROW.out W' hb; go_simp; first | done | rfl); go_simp; refine hK _ ?_; clear hK K)
            refine yields_nil ?_
            refine anyP_leaf (bel_drew _) (by kernel_rfl) ?_
            simp only [List.drop_succ_cons, List.drop_zero]
            go_wp2_with fail
            refine (HPUT.out W.drew (bel_drew _)).mono ?_
            rintro e w5 ⟨rfl, h5, hk5, hs5⟩
            have H5 := Lib.hid h5.live
            have hb5 := (hk5 w3.heap.size rfl).trans HBOX.out
            have b2 := cells_at hb5 2 _ rfl
            simp only [List.getElem_toArray, List.getElem_cons_zero, List.getElem_cons_succ] at b2
            have HS5 := Lib.hid h5.old
            clear h5 hk5 hs5 hb5
            by_cases hE : E = 0
            · subst hE
              have hz : Z = (0, T) := by rw [HTL.out, if_neg (by simp)]
              have HZ3 := Lib.hid hz
              clear hz
              go_wp2_with fail
              all_goals
                go_ret
                rw [HZ3.out]
                exact ⟨rfl, H5.out⟩
            · have hb : (E != 0) = true := by simpa using hE
              have hz : Z = (E, T) := by rw [HTL.out, if_pos hE]
              have HZ3 := Lib.hid hz
              clear hz
              go_wp2_with fail
              go_ret
              rw [HZ3.out]
              exact ⟨rfl, H5.out⟩
          · replace HROW : Hid (∀ X, Below W.heap.size W X → X.cell? ⟨o, 1, none⟩ = some (.pointer (some ⟨bp, 0, none⟩)) ∧ X.cell? ⟨w3.heap.size, 0, none⟩ = some (.int .u8 1) ∧ X.cell? ⟨w3.heap.size, 1, none⟩ = some (.int .i64 n) ∧ X.cell? ⟨w3.heap.size, 2, none⟩ = some (.slice a3 m' c3)) := HROW
            refine wp_region_free [0, 1, 2, 3, 4, 5, 6] 7 (fun W' => Below W.heap.size W W') (by kernel_rfl) (by kernel_rfl) ?_
            change wpYields _ _ _ _ [_, _, _, _, _, _, _] _
            iterate 7 (refine yields_step (fun K hK => ?_); apply Exists.intro; apply And.intro; (apply yields_at rfl; rintro W' hb; obtain ⟨z0, z1, z2, z3⟩ := HROW.out W' hb; go_simp; first | done | rfl); go_simp; refine hK _ ?_; clear hK K)
            refine yields_nil ?_
            refine anyP_leaf (bel_drew _) (by kernel_rfl) ?_
            simp only [List.drop_succ_cons, List.drop_zero]
            go_wp2_with fail
            refine (HPUT.out W.drew (bel_drew _)).mono ?_
            rintro e w5 ⟨rfl, h5, hk5, hs5⟩
            have H5 := Lib.hid h5.live
            have hb5 := (hk5 w3.heap.size rfl).trans HBOX.out
            have b2 := cells_at hb5 2 _ rfl
            simp only [List.getElem_toArray, List.getElem_cons_zero, List.getElem_cons_succ] at b2
            have HS5 := Lib.hid h5.old
            clear h5 hk5 hs5 hb5
            by_cases hE : E = 0
            · subst hE
              have hz : Z = (0, T) := by rw [HTL.out, if_neg (by simp)]
              have HZ3 := Lib.hid hz
              clear hz
              go_wp2_with fail
              all_goals
                go_ret
                rw [HZ3.out]
                exact ⟨rfl, H5.out⟩
            · have hb : (E != 0) = true := by simpa using hE
              have hz : Z = (E, T) := by rw [HTL.out, if_pos hE]
              have HZ3 := Lib.hid hz
              clear hz
              go_wp2_with fail
              go_ret
              rw [HZ3.out]
              exact ⟨rfl, H5.out⟩
        · obtain ⟨b', o', k', hv', hc1, hc2, hc3, hc4⟩ := HR.out.some (by omega)
          cases hv'
          rw [HMM.out, if_neg hm] at htl
          have HTL := Lib.hid htl
          have htkl : (rest.take 1000).length = 1000 := by rw [List.length_take, HMM.out]; omega
          have hcl := oclone_any wr _ (rest.take 1000) (by rw [htkl]; exact reads_take HR.out 1000 (by omega)) (by rw [htkl]; omega)
          rw [htkl] at hcl
          have HTKL := Lib.hid htkl
          have HINR := Lib.hid (show OIn (rest.take 1000) from fun x hx => HIN.out x (List.mem_of_mem_take hx))
          have HCL := Lib.hid hcl
          have hmin : min (m' : Int) 1000 = 1000 := by omega
          have hcap : (1000 : Int) ≤ (vc' : Int) := by omega
          clear hc4 htkl
          clear htl hold hcl
          go_wp2_with fail
          refine HCL.out.mono ?_
          rintro e w3 ⟨v3, rfl, hown3, hb3⟩
          have hov := own_out hown3
          have hrd3 := Reads.own hown3
          obtain ⟨a3, c3, rfl⟩ := hrd3.shape
          obtain ⟨W, hW⟩ : ∃ W, w3.alloc (.cells #[.int .u8 1, .int .i64 n, .slice a3 1000 c3] 142) = W := ⟨_, rfl⟩
          have hbW : Below w3.heap.size w3 W := by rw [← hW]; exact bel_alloc _ _
          have hbox : W.heap[w3.heap.size]? = some (.cells #[.int .u8 1, .int .i64 n, .slice a3 1000 c3] 142) := by rw [← hW]; exact heap_alloc_new w3 _
          have hbl := (Array.getElem?_eq_some_iff.1 hbox).1
          have hs3 := hb3.size
          have hOK := (HH.out.keep.grow (bel_trans hb3 hbW)).less (K' := fun k => (Value.slice a3 1000 c3).ownBlock = some k ∨ k = w3.heap.size) (fun k hk => .inr (by
            rcases hk with hk | hk
            · have := hov k hk; exact ⟨this.1, by omega⟩
            · exact ⟨by omega, by omega⟩))
          obtain ⟨bp, hcell, hput⟩ := oput_live (K := fun k => k = w3.heap.size) p ⟨1, n, rest.take 1000⟩ (.slice a3 1000 c3) hOK (fun k hk e => by have := hov k hk; omega) HF.out (by omega) (by rw [show (ORec.mk 1 n (rest.take 1000)).l.length = 1000 from HTKL.out]; exact hrd3.below hbW)
            (fun k hk => ⟨HH.out.old.fresh (hov k hk).1, by obtain ⟨h1, h2, cur, h3⟩ := hov k hk; exact ⟨cur, (hbW.block k h2).trans h3⟩⟩) hn HINR.out (show (rest.take 1000).length ≤ 1000 by rw [HTKL.out]; omega) 1 (show (((1 : UInt8).toNat : Nat) : Int) = 1 by decide)
          have hcl2 := fun X hX => hcell X hX
          rw [← HIPN.out] at hcl2
          have HROW := Lib.hid (fun (X : World) (hX : Below W.heap.size W X) => And.intro (hcl2 X hX) (And.intro ((World.cell?_of_block (a := ⟨w3.heap.size, 0, none⟩) (hX.block w3.heap.size hbl)).trans (cells_at hbox 0 _ rfl)) (And.intro ((World.cell?_of_block (a := ⟨w3.heap.size, 1, none⟩) (hX.block w3.heap.size hbl)).trans (cells_at hbox 1 _ rfl)) ((World.cell?_of_block (a := ⟨w3.heap.size, 2, none⟩) (hX.block w3.heap.size hbl)).trans (cells_at hbox 2 _ rfl)))))
          have HPUT := Lib.hid hput
          have HBOX := Lib.hid hbox
          have HW := Lib.hid hW
          have HFP := Lib.hid (HF.out.put p ⟨1, n, rest.take 1000⟩ (show (rest.take 1000).length ≤ 1000 by rw [HTKL.out]; omega))
          obtain ⟨E, T, hET⟩ : ∃ E T, S'.put p ⟨1, n, rest.take 1000⟩ = (E, T) := ⟨_, _, rfl⟩
          rw [hET] at HPUT HTL HFP
          unfold ptr at HROW HPUT
          simp only [List.getElem_toArray, List.getElem_cons_zero, List.getElem_cons_succ] at HROW
          clear hown3 hb3 hov hrd3 hW hbW hbox hbl hs3 hOK hcell hput hcl2 hET
          go_upto_region 6 with fail
          rw [HW.out]
          rcases hipp with rfl | rfl
          · replace HROW : Hid (∀ X, Below W.heap.size W X → X.cell? ⟨o, 0, none⟩ = some (.pointer (some ⟨bp, 0, none⟩)) ∧ X.cell? ⟨w3.heap.size, 0, none⟩ = some (.int .u8 1) ∧ X.cell? ⟨w3.heap.size, 1, none⟩ = some (.int .i64 n) ∧ X.cell? ⟨w3.heap.size, 2, none⟩ = some (.slice a3 1000 c3)) := HROW
            refine wp_region_free [0, 1, 2, 3, 4, 5, 6] 7 (fun W' => Below W.heap.size W W') (by kernel_rfl) (by kernel_rfl) ?_
            change wpYields _ _ _ _ [_, _, _, _, _, _, _] _
            iterate 7 (refine yields_step (fun K hK => ?_); apply Exists.intro; apply And.intro; (apply yields_at rfl; rintro W' hb; obtain ⟨z0, z1, z2, z3⟩ := HROW.out W' hb; go_simp; first | done | rfl); go_simp; refine hK _ ?_; clear hK K)
            refine yields_nil ?_
            refine anyP_leaf (bel_drew _) (by kernel_rfl) ?_
            simp only [List.drop_succ_cons, List.drop_zero]
            go_wp2_with fail
            refine (HPUT.out W.drew (bel_drew _)).mono ?_
            rintro e w5 ⟨rfl, h5, hk5, hs5⟩
            have H5 := Lib.hid h5.live
            have hb5 := (hk5 w3.heap.size rfl).trans HBOX.out
            have b2 := cells_at hb5 2 _ rfl
            simp only [List.getElem_toArray, List.getElem_cons_zero, List.getElem_cons_succ] at b2
            have HS5 := Lib.hid h5.old
            clear h5 hk5 hs5 hb5
            by_cases hE : E = 0
            · subst hE
              have hz : Z = OSt.tells p n ((m' - 1000) / 1000 + 1) T (rest.drop 1000) := by rw [HTL.out, if_neg (by simp), show m' / 1000 = (m' - 1000) / 1000 + 1 by omega]
              have HZ3 := Lib.hid hz
              clear hz
              have hrd := reads_drop (HPR.out w5 HS5.out HR.out) 1000 (by omega) (by omega)
              have HRD5 := Lib.hid hrd
              clear hrd
              go_wp2_with fail
              go_roundw
              case rel => exact ⟨T, rest.drop 1000, j' + 1, m' - 1000, some ⟨b', o' + 2000, none⟩, vc' - 1000, rfl, Lib.hid (by rw [List.length_drop, HMM.out]), HZ3, H5, HFP, by omega, HRD5, HVK, Lib.hid (fun x hx => HIN.out x (List.mem_of_mem_drop hx)), by omega⟩
              case measure => simp [lenOf]; omega
            · have hb : (E != 0) = true := by simpa using hE
              have hz : Z = (E, T) := by rw [HTL.out, if_pos hE]
              have HZ3 := Lib.hid hz
              clear hz
              go_wp2_with fail
              go_ret
              rw [HZ3.out]
              exact ⟨rfl, H5.out⟩
          · replace HROW : Hid (∀ X, Below W.heap.size W X → X.cell? ⟨o, 1, none⟩ = some (.pointer (some ⟨bp, 0, none⟩)) ∧ X.cell? ⟨w3.heap.size, 0, none⟩ = some (.int .u8 1) ∧ X.cell? ⟨w3.heap.size, 1, none⟩ = some (.int .i64 n) ∧ X.cell? ⟨w3.heap.size, 2, none⟩ = some (.slice a3 1000 c3)) := HROW
            refine wp_region_free [0, 1, 2, 3, 4, 5, 6] 7 (fun W' => Below W.heap.size W W') (by kernel_rfl) (by kernel_rfl) ?_
            change wpYields _ _ _ _ [_, _, _, _, _, _, _] _
            iterate 7 (refine yields_step (fun K hK => ?_); apply Exists.intro; apply And.intro; (apply yields_at rfl; rintro W' hb; obtain ⟨z0, z1, z2, z3⟩ := HROW.out W' hb; go_simp; first | done | rfl); go_simp; refine hK _ ?_; clear hK K)
            refine yields_nil ?_
            refine anyP_leaf (bel_drew _) (by kernel_rfl) ?_
            simp only [List.drop_succ_cons, List.drop_zero]
            go_wp2_with fail
            refine (HPUT.out W.drew (bel_drew _)).mono ?_
            rintro e w5 ⟨rfl, h5, hk5, hs5⟩
            have H5 := Lib.hid h5.live
            have hb5 := (hk5 w3.heap.size rfl).trans HBOX.out
            have b2 := cells_at hb5 2 _ rfl
            simp only [List.getElem_toArray, List.getElem_cons_zero, List.getElem_cons_succ] at b2
            have HS5 := Lib.hid h5.old
            clear h5 hk5 hs5 hb5
            by_cases hE : E = 0
            · subst hE
              have hz : Z = OSt.tells p n ((m' - 1000) / 1000 + 1) T (rest.drop 1000) := by rw [HTL.out, if_neg (by simp), show m' / 1000 = (m' - 1000) / 1000 + 1 by omega]
              have HZ3 := Lib.hid hz
              clear hz
              have hrd := reads_drop (HPR.out w5 HS5.out HR.out) 1000 (by omega) (by omega)
              have HRD5 := Lib.hid hrd
              clear hrd
              go_wp2_with fail
              go_roundw
              case rel => exact ⟨T, rest.drop 1000, j' + 1, m' - 1000, some ⟨b', o' + 2000, none⟩, vc' - 1000, rfl, Lib.hid (by rw [List.length_drop, HMM.out]), HZ3, H5, HFP, by omega, HRD5, HVK, Lib.hid (fun x hx => HIN.out x (List.mem_of_mem_drop hx)), by omega⟩
              case measure => simp [lenOf]; omega
            · have hb : (E != 0) = true := by simpa using hE
              have hz : Z = (E, T) := by rw [HTL.out, if_pos hE]
              have HZ3 := Lib.hid hz
              clear hz
              go_wp2_with fail
              go_ret
              rw [HZ3.out]
              exact ⟨rfl, H5.out⟩

end Go.Proofs.Ytllecjhfbojgcaa
