/-
  The walk through LogKept.
-/
import Derived.Test.YtdkhidajmhmjpaaLogTail2
import Derived.Test.YtdkhidajmhmjpaaLogBytes
import Derived.Test.YtdkhidajmhmjpaaArgsRec
import Derived.Deep.CutRange
namespace Go.Proofs.Ytdkhidajmhmjpaa
open Go.RowKit
set_option maxRecDepth 20000

theorem LgK.only2 {w0 w w' : World} {l d : Nat} {file : Int} {D : Dk.St} {L : Lg.St} {K S : Nat → Prop} (h : LgK w0 w l d file D L K) (ho : Only S w w') (hS : ∀ k, S k → K k ∧ w0.heap.size ≤ k) : LgK w0 w' l d file D L (fun k => K k ∨ (w.heap.size ≤ k ∧ k < w'.heap.size)) := by
  obtain ⟨F, G, h1, h2, h3, h4, h5, h6, h7⟩ := h
  have hs := ho.size
  refine ⟨F, G, h1.only ho (fun k hk hs => (h7 k (hS k hs).1).2.1 hk), h2.only ho (fun k hk hs => (h7 k (hS k hs).1).2.2 hk), h3, h4, h5, h6.trans (ho.toBelow h6.size (fun i hi => (hS i hi).2)), fun k hk => ?_⟩
  rcases hk with hk | ⟨hk, hk'⟩
  · obtain ⟨h8, h9⟩ := h7 k hk
    exact ⟨by omega, h9⟩
  · exact ⟨hk', fun hf => by have := h1.lt k hf; omega, fun hg => by have := h2.lt k hg; omega⟩

theorem LgK.push2 {w0 w w' : World} {l d g : Nat} {file : Int} {D : Dk.St} {L : Lg.St} {K : Nat → Prop} {v : Value} {o : Obj} (h : LgK w0 w l d file D L K) (hv : ∀ b, v.ownBlock = some b → K b ∧ w0.heap.size ≤ b)
    (hg : (w.alloc o).grownBy w' v.ownBlock) (hat : v.ownBlock = some g ∨ (w.alloc o).heap.size ≤ g) (hlt : g < w'.heap.size) (K' : Nat → Prop) (hK : ∀ k, K' k → K k) : LgK w0 w' l d file D L (fun k => K' k ∨ k = g) := by
  have hs0 := h.bel.size
  have hs : (w.alloc o).heap.size = w.heap.size + 1 := by simp
  have h1 := h.grow (bel_alloc w o)
  have ho : Only (fun b => v.ownBlock = some b) (w.alloc o) w' := ⟨hg.os, hg.tape, hg.output, hg.size, fun k hk hn => hg.block k hk (fun e => hn e.symm)⟩
  refine (h1.only2 ho (fun k hk => ⟨.inl (hv k hk).1, (hv k hk).2⟩)).less (fun k hk => ?_)
  rcases hk with hk | rfl
  · exact .inl (.inl (hK k hk))
  · rcases hat with h | h
    · exact .inl (.inl (hv _ h).1)
    · exact .inr ⟨h, hlt⟩

theorem RowAt.cut1 {w : World} {e : TypeId} {size : Nat} {v : Value} {n : Nat} {xs : List Value} (h : RowAt w e size v n xs) (k : Nat) (hk : k ≤ n) :
    ∃ a c, v = .slice a n c ∧ n ≤ c ∧ c ≤ maxLen ∧ (a = none → n = 0 ∧ c = 0) ∧ RowAt w e size (.slice a k k) k (xs.take (k * size)) := by
  by_cases hn : 0 < n
  · obtain ⟨g, c, rfl, h1, h2, h3⟩ := h.cut k hk hn
    exact ⟨_, _, rfl, h1, h2, (fun e => by cases e), h3⟩
  · have hn0 : n = 0 := by omega
    have hk0 : k = 0 := by omega
    subst hn0
    subst hk0
    rw [Nat.zero_mul, List.take_zero]
    rcases h with ⟨h1, h2⟩ | ⟨h1, g, cur, rfl, h2, h3, h4, h5⟩
    · rcases h2 with ⟨rfl, -⟩ | ⟨g, c, cur, rfl, -, h2, h3, h4, h5, h6⟩
      · exact ⟨none, 0, rfl, Nat.le_refl _, Nat.zero_le _, (fun _ => ⟨rfl, rfl⟩), .inl (World.ownsRow_nil _ _ _ _)⟩
      · exact ⟨_, c, rfl, h3, h4, (fun e => by cases e), .inr ⟨by simp, g, cur, rfl, h2, Nat.zero_le _, by omega, by simp⟩⟩
    · exact ⟨_, 0, rfl, Nat.le_refl _, h3, (fun e => by cases e), .inr ⟨by simp, g, cur, rfl, h2, Nat.zero_le _, by omega, by simp⟩⟩

/-- A round's state: the log, what was put, the row of it. -/
structure KeptAt (w wr : World) (n : Nat) (D : Dk.St) (all : List Lg.Rec) (s : Nat) (va : Value) (K : Nat → Prop) (a : Nat) : Prop where
  log : LgK w wr n w.heap.size 2 D ⟨all, s⟩ K
  row : RowAt wr 33 4 va all.length (recCells all)
  own : ∀ b, va.ownBlock = some b → K b ∧ w.heap.size ≤ b
  kept : Lg.Kept D all s none
  fit : Lg.Fit a D ⟨all, s⟩

theorem KeptAt.weak {w wr : World} {n g a a2 : Nat} {D : Dk.St} {all : List Lg.Rec} {s : Nat} {va : Value} (h : KeptAt w wr n D all s va (fun b => va.ownBlock = some b ∨ b = g) a) (hab : a ≤ a2) : KeptAt w wr n D all s va (fun b => va.ownBlock = some b) a2 :=
  ⟨h.log.less (fun _ hb => .inl hb), h.row, fun b hb => ⟨hb, (h.own b hb).2⟩, h.kept, h.fit.mono hab⟩

/-- What the rest asks of a row. -/
theorem row_rest {w : World} {a : Option Addr} {n c : Nat} {xs : List Value} (h : RowAt w 33 4 (.slice a n c) n xs) : n ≤ c ∧ c ≤ maxLen ∧ (a = none → c = 0) := by
  obtain ⟨a', c', h1, h2, h3, h4, -⟩ := h.cut1 n (Nat.le_refl _)
  cases h1
  exact ⟨h2, h3, fun e => (h4 e).2⟩

theorem kept_start (p : Int) (hp : 0 ≤ p) : (Dk.power (Dk.fresh 4194304) p).1 = 0 ∧ Lg.Kept (Dk.power (Dk.fresh 4194304) p).2 [] 0 none ∧ Lg.Fit 0 (Dk.power (Dk.fresh 4194304) p).2 ⟨[], 0⟩ := by
  have : Dk.power (Dk.fresh 4194304) p = (0, { Dk.fresh 4194304 with left := p }) := by
    unfold Dk.power
    rw [if_neg (by simp [Dk.fresh]), if_neg (by omega)]
  rw [this]
  exact ⟨rfl, ⟨(show (Dk.at' Dk.none' 2).data.toList = [] by decide), rfl, Nat.le_refl _, (fun n hn => by cases hn), fun r hr => by cases hr⟩, ⟨Nat.zero_le _, Nat.zero_le _⟩⟩

theorem lg_open2 {w0 w : World} {d : Nat} (h : Live w0 w d (Dk.fresh 4194304)) :
    Calls Try.prog 9 #[ptr d 0, .int .i64 2] w fun e w' => ∃ l, e = .returned (.tuple #[ptr l 0, .int .i64 0]) ∧ LgLive w0 w' l d 2 (Dk.fresh 4194304) ⟨[], 0⟩ :=
  lg_open_at (D := Dk.fresh 4194304) h ⟨rfl, rfl⟩ 2 (by decide) [] [] (by kernel_rfl) (by kernel_rfl) (by decide) (by decide)

set_option maxHeartbeats 16000000 in
set_option maxRecDepth 100000 in
theorem logKept_walk (v : Value) (l : List LRec) (p chg byt : Int) (w : World) (hr : Reads w v l.length (lrecCells l)) (hi : ∀ r ∈ l, (Lit.int .u8 r.kind).wf = true ∧ r.text.size ≤ maxLen ∧ (Lit.int .i64 r.cut).wf = true) (hp : (Lit.int .i64 p).wf = true) (_hc : (Lit.int .i64 chg).wf = true) (_hb : (Lit.int .i64 byt).wf = true) :
    Calls Try.prog 6 #[v, .int .i64 p, .int .i64 chg, .int .i64 byt] w fun e w' => e = .returned (.bool true) ∧ Below w.heap.size w w' := by
  have hlen := hr.lenLe
  unfold maxLen at hlen
  have hp2 := (bounds_i64 hp).2
  have HR := Lib.hid hr
  have HI := Lib.hid hi
  obtain ⟨a, c, rfl⟩ := hr.shape
  obtain ⟨i0, hi0, hz0, hz1, hz2⟩ := info_parts infoLawRec
  clear hr hi hp _hc _hb
  by_cases hbig : 100 < l.length
  · have hb1 : (100 : Int) < (l.length : Int) := by omega
    go_enter Try.func6, Try.ntmps6
    go_wp2_with fail
    refine (lworks_any _).mono ?_
    rintro e w1 ⟨rfl, hb⟩
    go_wp2_with fail
    go_ret
    exact ⟨rfl, hb⟩
  · have hb1 : ¬ (100 : Int) < (l.length : Int) := by omega
    by_cases hpn : p < 0
    · go_enter Try.func6, Try.ntmps6
      go_wp2_with fail
      refine (lworks_any _).mono ?_
      rintro e w1 ⟨rfl, hb⟩
      go_wp2_with fail
      go_ret
      exact ⟨rfl, hb⟩
    · obtain ⟨m, hm⟩ : ∃ m, l.length = m := ⟨_, rfl⟩
      have HM := Lib.hid hm
      rw [hm] at hb1 hlen hbig
      rw [hm]
      obtain ⟨k1, k2, k3⟩ := kept_start p (by omega)
      have HK2 := Lib.hid k2
      have HK3 := Lib.hid k3
      clear k2 k3
      go_enter Try.func6, Try.ntmps6
      go_wp2_with fail
      refine (live_new 4194304 w (by decide)).mono ?_
      rintro e w1 ⟨rfl, h⟩
      have H := Lib.hid (show Live w w1 w.heap.size (Dk.fresh 4194304) from h)
      clear h
      unfold ptr
      go_wp2_with fail
      refine (lg_open2 H.out).mono ?_
      rintro e w2 ⟨n, rfl, h⟩
      have HN := Lib.hid h
      clear h
      unfold ptr
      go_wp2_with fail
      refine (lg_power HN.out p (by omega)).mono ?_
      rintro e w3 ⟨rfl, h⟩
      rw [k1]
      have HP := Lib.hid h
      clear h
      go_wp2_with fail
      go_loopw [13, 14, 54] (fun va su i wr => ∃ (j : Nat) (D : Dk.St) (all : List Lg.Rec) (s : Nat), j ≤ m ∧ i = .int .i64 (j : Int) ∧ su = .int .i64 (s : Int) ∧ Hid (KeptAt w wr n D all s va (fun b => va.ownBlock = some b) (2 * j)) ∧ all.length ≤ j) (fun _ _ i _ => m - (intOf i).toNat)
      case atStart => exact ⟨0, _, [], 0, Nat.zero_le _, rfl, rfl, Lib.hid ⟨HP.out.keep.less (fun k hk => by cases hk), .inl (World.ownsRow_nil _ _ _ _), (fun b hb => by cases hb), HK2.out, HK3.out⟩, Nat.zero_le _⟩
      case round =>
        obtain ⟨j, D, all, s, hj, rfl, rfl, HS, hLj⟩ := hrel
        obtain ⟨va, rfl⟩ : ∃ x, x = u13 := ⟨_, rfl⟩
        by_cases hlt : j < m
        · obtain ⟨x, hx⟩ : ∃ x, l[j]? = some x := ⟨l[j]'(by rw [HM.out]; omega), by simp⟩
          have hrr := HR.out
          obtain ⟨b, o, rfl, hblt, r0, r1, r2, r3⟩ := reads4r hrr j x hx
          have hbl := HS.out.log.bel
          have r0 := (World.cell?_of_block (hbl.block b hblt)).trans r0
          have r1 := (World.cell?_of_block (hbl.block b hblt)).trans r1
          have r2 := (World.cell?_of_block (hbl.block b hblt)).trans r2
          have r3 := (World.cell?_of_block (hbl.block b hblt)).trans r3
          have hjk : (j : Int) < (m : Int) := by omega
          obtain ⟨i1, i2, i3⟩ := HI.out x (List.mem_of_getElem? hx)
          have hk := lrec_kind i1
          have hk0 := bounds_u8 i1
          have hct := bounds_i64 i3
          unfold maxLen at i2
          clear hbl hx hrr i1 i3
          obtain ⟨k, t, sy, ct⟩ := x
          simp only at r0 r1 r2 r3 i2 hk hk0 hct
          have HK1 := Lib.hid ((HS.out.log.grow (bel_alloc wr (.cells #[.int .u8 k, .string t, .bool sy, .int .i64 ct] 33))).less (K' := fun b => va.ownBlock = some b ∨ b = wr.heap.size) (fun b e => by
            rcases e with e | e
            · exact .inl e
            · exact .inr ⟨by omega, by rw [e]; simp⟩))
          by_cases hts : 1000 < t.size
          · have hts2 : (1000 : Int) < (t.size : Int) := by omega
            go_wp2_with fail
            refine (lworks_any _).mono ?_
            rintro e w5 ⟨rfl, hb⟩
            have H := Lib.hid (HK1.out.live.below hb)
            clear hb
            go_wp2_with fail
            go_ret
            exact ⟨rfl, H.out.bel⟩
          · have hts2 : ¬ (1000 : Int) < (t.size : Int) := by omega
            have hput := lgk_put HK1.out (⟨UInt8.ofNat k.toNat, t⟩ : Lg.Rec) (by show t.size ≤ _; omega) (by have := HS.out.fit.loose; omega) (by have := HS.out.fit.bytes; omega)
            rw [hk] at hput
            unfold ptr at hput
            have hf1 := HS.out.fit.put 2 ⟨UInt8.ofNat k.toNat, t⟩ (by show t.size ≤ _; omega)
            have hkp := HS.out.kept.put ⟨UInt8.ofNat k.toNat, t⟩
            obtain ⟨eP, D1, L1, hP⟩ : ∃ e D' L', Lg.put D 2 ⟨all, s⟩ ⟨UInt8.ofNat k.toNat, t⟩ = (e, D', L') := ⟨_, _, _, rfl⟩
            rw [hP] at hput hf1 hkp
            have hxn := heap_alloc_new wr (.cells #[.int .u8 k, .string t, .bool sy, .int .i64 ct] 33)
            have s0 := cells_at hxn 0 _ rfl
            have s1 := cells_at hxn 1 _ rfl
            simp only [List.getElem_toArray, List.getElem_cons_zero, List.getElem_cons_succ] at s0 s1
            have HXN := Lib.hid hxn
            have HPUT := Lib.hid hput
            have HF1 := Lib.hid (show Lg.Fit (2 * j + 1) D1 L1 from hf1)
            have HKP := Lib.hid hkp
            have hrw : RowAt (wr.alloc (.cells #[.int .u8 k, .string t, .bool sy, .int .i64 ct] 33)) 33 4 va all.length (recCells all) := HS.out.row.kept (fun b hb => Below.heap_alloc _ _ _ (by obtain ⟨cur, hcur⟩ := HS.out.row.type b hb; exact (Array.getElem?_eq_some_iff.1 hcur).1))
            have HRW := Lib.hid hrw
            have hvg : ∀ b, va.ownBlock = some b → b < wr.heap.size := fun b hb => by
              obtain ⟨cur, hcur⟩ := HS.out.row.type b hb
              exact (Array.getElem?_eq_some_iff.1 hcur).1
            have HVG := Lib.hid hvg
            obtain ⟨g, hg⟩ : ∃ g, wr.heap.size = g := ⟨_, rfl⟩
            have hgw : w.heap.size ≤ g := by rw [← hg]; exact HS.out.log.bel.size
            obtain ⟨V, hV⟩ : ∃ V, wr.alloc (.cells #[.int .u8 k, .string t, .bool sy, .int .i64 ct] 33) = V := ⟨_, rfl⟩
            rw [hg] at HPUT HXN HVG s0 s1
            rw [hV] at HPUT HXN HRW s0 s1
            clear hput hf1 hkp hP hxn hrw hvg
            go_wp2_with fail
            clear hg hV
            refine HPUT.out.mono ?_
            rintro e w5 ⟨rfl, h5, hk5⟩
            have H5 := Lib.hid h5
            have HX5 := Lib.hid ((hk5 g (.inr rfl)).trans HXN.out)
            have s0' := (World.cell?_of_block (hk5 g (.inr rfl))).trans s0
            have s1' := (World.cell?_of_block (hk5 g (.inr rfl))).trans s1
            have HRW5 := Lib.hid (HRW.out.kept (fun b hb => hk5 b (.inl hb)))
            have hgl5 : g < w5.heap.size := (Array.getElem?_eq_some_iff.1 HX5.out).1
            clear h5 hk5 s0 s1
            go_upto_if 69 with fail
            go_cut [13] from 56 to 109 (fun va wx => ∃ (D1 : Dk.St) (all1 : List Lg.Rec), Hid (KeptAt w wx n D1 all1 s va (fun b => va.ownBlock = some b ∨ b = g) (2 * j + 1)) ∧ Hid (wx.heap[g]? = some (.cells #[.int .u8 k, .string t, .bool sy, .int .i64 ct] 33)) ∧ all1.length ≤ j + 1)
            case first =>
              rcases HKP.out with ⟨p1, p2, p3⟩ | ⟨p1, p2, p3⟩
              · have p1 : eP = 0 := p1
                subst p1
                have e2 : L1 = ⟨all ++ [⟨UInt8.ofNat k.toNat, t⟩], s⟩ := p2
                have e3 : Lg.Kept D1 (all ++ [⟨UInt8.ofNat k.toNat, t⟩]) s none := p3
                subst e2
                have HK3' := Lib.hid e3
                clear p1 p2 p3 e3
                go_wp2_with (at_builtin; refine wpList_append_row rfl _ _ 22 rfl 33 i0 (.agg #[.int .u8 0, .string ⟨#[]⟩, .bool false, .int .i64 0]) 4 40 Try.underlying22 hi0 hz0 hz1 hz2 rfl (by decide) va all.length (recCells all) (by rfl) (HRW5.out.kept (fun b hb => Below.heap_alloc _ _ _ (by obtain ⟨cur, hcur⟩ := HRW5.out.type b hb; exact (Array.getElem?_eq_some_iff.1 hcur).1))) ⟨w5.heap.size, 0, none⟩ 1 1 [.int .u8 k, .string t, .bool false, .int .i64 0] rfl rfl (by intro jj u hj; rw [addr_add, Nat.zero_add]; exact cell_row w5 _ _ jj u (by simpa using hj)) (by simp [Value.oneCell']) (by decide) (by unfold maxLen; omega) (by omega) ?_)
                intro gg cap w6 hown6 hgrow hat hltg
                have hvb := HS.out.own
                have hK6 := H5.out.push2 (v := va) (g := gg) (K' := fun b => b = g) (fun b hb => ⟨.inl hb, (hvb b hb).2⟩) hgrow (hat.imp id (fun h => by simpa using h)) hltg (fun b hb => .inr hb)
                have hgw6 : w.heap.size ≤ gg := by
                  rcases hat with h | h
                  · exact (hvb gg h).2
                  · have := H5.out.bel.size
                    omega
                have hvgg : va.ownBlock ≠ some g := fun e => by have := HVG.out g e; omega
                have HX6 := Lib.hid ((hgrow.block g (by simp; omega) (fun e => hvgg e.symm)).trans ((Below.heap_alloc _ _ _ hgl5).trans HX5.out))
                have hrec : recC ⟨UInt8.ofNat k.toNat, t⟩ = [.int .u8 k, .string t, .bool false, .int .i64 0] := by
                  unfold recC
                  rw [show ((UInt8.ofNat k.toNat).toNat : Int) = k from hk]
                have hN : KeptAt w w6 n D1 (all ++ [⟨UInt8.ofNat k.toNat, t⟩]) s (.slice (some ⟨gg, 0, none⟩) (all.length + 1) cap) (fun b => (Value.slice (some ⟨gg, 0, none⟩) (all.length + 1) cap).ownBlock = some b ∨ b = g) (2 * j + 1) := by
                  refine ⟨hK6.less (fun b hb => ?_), .inl ?_, fun b hb => ⟨.inl hb, ?_⟩, HK3'.out, HF1.out⟩
                  · rcases hb with hb | hb
                    · simp only [Value.ownBlock, Option.some.injEq] at hb
                      exact .inr hb.symm
                    · exact .inl hb
                  · rw [recCells_snoc, hrec, List.length_append]
                    exact hown6
                  · simp only [Value.ownBlock, Option.some.injEq] at hb
                    omega
                have HN2 := Lib.hid hN
                clear hown6 hgrow hat hK6 hvb hgw6 hvgg hN hrec
                go_wp2_with fail
                go_meet
                case rel => exact ⟨D1, _, HN2, HX6, by simp; omega⟩
              · have hz : (eP == 0) = false := by simpa using p1
                have e2 : L1 = ⟨all, s⟩ := p2
                have e3 : Lg.Kept D1 all s none := p3
                subst e2
                have HN2 : Hid (KeptAt w w5 n D1 all s va (fun b => va.ownBlock = some b ∨ b = g) (2 * j + 1)) := Lib.hid ⟨H5.out, HRW5.out, fun b hb => ⟨.inl hb, (HS.out.own b hb).2⟩, e3, HF1.out⟩
                clear p1 p2 p3 e3
                go_wp2_with fail
                go_meet
                case rel => exact ⟨D1, all, HN2, HX5, by omega⟩
            case rest =>
              obtain ⟨D1', all1, HS1, HXX, hL1⟩ := hcut
              obtain ⟨vb, rfl⟩ : ∃ x, x = u13 := ⟨_, rfl⟩
              have x2 := cells_at HXX.out 2 _ rfl
              simp only [List.getElem_toArray, List.getElem_cons_zero, List.getElem_cons_succ] at x2
              clear s0' s1' hgl5 HRW5 HX5 H5 HPUT HKP HF1 HRW HXN HVG
              go_upto_region 16 with fail
              go_cut [84] from 56 to 109 (fun s84 wx => ∃ (D2 : Dk.St) (s2 : Nat) (bb : Bool), s84 = .bool bb ∧ Hid (KeptAt w wx n D2 all1 s2 vb (fun b => vb.ownBlock = some b ∨ b = g) (2 * j + 1)) ∧ Hid (wx.heap[g]? = some (.cells #[.int .u8 k, .string t, .bool sy, .int .i64 ct] 33)) ∧ (bb = true → s2 = all1.length) ∧ (bb = false → s2 = s))
              case first =>
                cases sy with
                | false =>
                  go_wp2_with fail
                  go_meet
                  case rel => exact ⟨D1', s, false, rfl, HS1, HXX, fun h => (by cases h), fun _ => rfl⟩
                | true =>
                  have hsy := lgk_sync HS1.out.log
                  unfold ptr at hsy
                  have hkp := HS1.out.kept.sync HS1.out.log.live.ok
                  have hf := HS1.out.fit.sync
                  obtain ⟨eS, D2, L2, hS⟩ : ∃ e D' L', Lg.sync D1' ⟨all1, s⟩ = (e, D', L') := ⟨_, _, _, rfl⟩
                  rw [hS] at hsy hkp hf
                  have HSY := Lib.hid hsy
                  have HF := Lib.hid (show Lg.Fit (2 * j + 1) D2 L2 from hf)
                  clear hsy hf hS
                  rcases hkp with ⟨q1, q2, q3⟩ | ⟨q1, q2, q3⟩
                  · have q1 : eS = 0 := q1
                    subst q1
                    have e2 : L2 = ⟨all1, all1.length⟩ := q2
                    have e3 : Lg.Kept D2 all1 all1.length none := q3
                    subst e2
                    have HE3 := Lib.hid e3
                    clear q1 q2 q3 e3
                    go_wp2_with fail
                    refine HSY.out.mono ?_
                    rintro e w7 ⟨rfl, h7, hk7⟩
                    have HX7 := Lib.hid ((hk7 g (.inr rfl)).trans HXX.out)
                    have HN7 : Hid (KeptAt w w7 n D2 all1 all1.length vb (fun b => vb.ownBlock = some b ∨ b = g) (2 * j + 1)) := Lib.hid ⟨h7, HS1.out.row.kept (fun b hb => hk7 b (.inl hb)), HS1.out.own, HE3.out, HF.out⟩
                    clear h7 hk7
                    go_wp2_with fail
                    go_meet
                    case rel => exact ⟨D2, all1.length, true, rfl, HN7, HX7, fun _ => rfl, fun h => (by cases h)⟩
                  · have hz : (eS == 0) = false := by simpa using q1
                    have e2 : L2 = ⟨all1, s⟩ := q2
                    have e3 : Lg.Kept D2 all1 s none := q3
                    subst e2
                    have HE3 := Lib.hid e3
                    clear q1 q2 q3 e3
                    go_wp2_with fail
                    refine HSY.out.mono ?_
                    rintro e w7 ⟨rfl, h7, hk7⟩
                    have HX7 := Lib.hid ((hk7 g (.inr rfl)).trans HXX.out)
                    have HN7 : Hid (KeptAt w w7 n D2 all1 s vb (fun b => vb.ownBlock = some b ∨ b = g) (2 * j + 1)) := Lib.hid ⟨h7, HS1.out.row.kept (fun b hb => hk7 b (.inl hb)), HS1.out.own, HE3.out, HF.out⟩
                    clear h7 hk7
                    go_wp2_with fail
                    go_meet
                    case rel => exact ⟨D2, s, false, rfl, HN7, HX7, fun h => (by cases h), fun _ => rfl⟩
              case rest =>
                obtain ⟨D2, s2, bb, rfl, HS2, HX2, hb1', hb2'⟩ := hcut
                clear HS1 HXX x2
                obtain ⟨va1', vc1, hvs⟩ := HS2.out.row.reads.shape
                subst hvs
                obtain ⟨N1, hN1⟩ : ∃ N, all1.length = N := ⟨_, rfl⟩
                have HN1 := Lib.hid hN1
                rw [hN1] at hL1 hb1'
                rw [hN1]
                clear hN1
                go_upto_if 84 with fail
                go_cut [14] from 56 to 109 (fun s14 wx => s14 = .int .i64 (s2 : Int) ∧ wx = wc)
                case first =>
                  cases bb with
                  | true =>
                    have := hb1' rfl
                    subst this
                    go_wp2_with fail
                    go_meet
                    case rel => exact ⟨rfl, rfl⟩
                  | false =>
                    have := hb2' rfl
                    subst this
                    go_wp2_with fail
                    go_meet
                    case rel => exact ⟨rfl, rfl⟩
                case rest =>
                  obtain ⟨rfl, hwc⟩ := hcut
                  subst hwc
                  have hs3 := HS2.out
                  rw [HN1.out] at hs3
                  have HS3 := Lib.hid hs3
                  have x3 := cells_at HX2.out 3 _ rfl
                  simp only [List.getElem_toArray, List.getElem_cons_zero, List.getElem_cons_succ] at x3
                  clear HS2 hs3 hb1' hb2'
                  by_cases hc1 : 0 < ct
                  · have hd1 : decide ((0 : Int) < ct) = true := by simpa using hc1
                    by_cases hc2 : ct ≤ (N1 : Int)
                    · obtain ⟨kq, hkq⟩ : ∃ kq : Nat, (N1 : Int) - ct = kq := ⟨((N1 : Int) - ct).toNat, by omega⟩
                      have e1 : IntKind.i64.wrap ((N1 : Int) - ct) = (kq : Int) := by rw [hkq]; exact IntWalk.i64_in _ (by omega)
                      have hkn : kq < N1 := by omega
                      have hd2 : decide ((0 : Int) ≤ (kq : Int)) = true := by simp
                      have hcu := lgk_cut HS3.out.log (kq : Int) (by have := HS3.out.fit.loose; omega)
                      unfold ptr at hcu
                      have hkp := HS3.out.kept.doCut HS3.out.log.live.ok kq (by rw [HN1.out]; exact hkn)
                      have hf := HS3.out.fit.cut 2 (kq : Int)
                      obtain ⟨eC, D3, L3, hC⟩ : ∃ e D L, Lg.cut D2 2 ⟨all1, s2⟩ (kq : Int) = (e, D, L) := ⟨_, _, _, rfl⟩
                      rw [hC] at hcu hkp hf
                      have HCU := Lib.hid hcu
                      have HF := Lib.hid (show Lg.Fit (2 * j + 1 + 1) D3 L3 from hf)
                      clear hcu hf hC hkq
                      rcases hkp with ⟨q1, q2, q3⟩ | ⟨q1, ⟨q2, q3⟩ | ⟨q2, q3⟩⟩
                      · have q1 : eC = 0 := q1
                        subst q1
                        have e2 : L3 = ⟨all1.take kq, kq⟩ := q2
                        have e3 : Lg.Kept D3 (all1.take kq) kq none := q3
                        subst e2
                        have HE3 := Lib.hid e3
                        clear q1 q2 q3 e3
                        go_wp2_with fail
                        refine HCU.out.mono ?_
                        rintro e w8 ⟨rfl, h8, hk8⟩
                        have hrow8 := HS3.out.row.kept (w' := w8) (fun b hb => hk8 b (.inl hb))
                        rw [HN1.out] at hrow8
                        obtain ⟨ca, cc, hce, hcl, hcm, hcz, hcr⟩ := hrow8.cut1 kq (by omega)
                        simp only [Value.slice.injEq, true_and] at hce
                        obtain ⟨z1, z2⟩ := hce
                        subst z1
                        subst z2
                        unfold maxLen at hcm
                        have hkc : kq ≤ vc1 := by omega
                        have hck : ∀ b, (Value.slice va1' kq kq).ownBlock = some b → (Value.slice va1' N1 vc1).ownBlock = some b := fun b hb => by
                          cases va1' with
                          | none => cases hb
                          | some ad => exact hb
                        have hlk : (all1.take kq).length = kq := by rw [List.length_take, HN1.out]; omega
                        have HN8 : Hid (KeptAt w w8 n D3 (all1.take kq) kq (.slice va1' kq kq) (fun b => (Value.slice va1' kq kq).ownBlock = some b) (2 * j + 1 + 1)) := by
                          refine Lib.hid ⟨h8.less (fun b hb => .inl (hck b hb)), ?_, fun b hb => ⟨hb, (HS3.out.own b (hck b hb)).2⟩, HE3.out, HF.out⟩
                          rw [hlk, ← recCells_take]
                          exact hcr
                        have hLk : (all1.take kq).length ≤ j + 1 := by omega
                        have HLK := Lib.hid hLk
                        clear h8 hk8 hrow8 hcr hlk hLk
                        cases va1' with
                        | none =>
                          obtain ⟨z1, -⟩ := hcz rfl
                          omega
                        | some ad =>
                          clear hcz
                          go_wp2_with fail
                          go_roundw
                          case rel => exact ⟨j + 1, D3, all1.take kq, kq, by omega, by go_num, rfl, HN8, HLK.out⟩
                          case measure => simp [intOf]; omega
                      · have hz : (eC == 0) = false := by simpa using q1
                        have e3 : Lg.Kept D3 all1 s2 none := q3
                        have e2 : L3.rs = all1 := q2
                        have HE3 := Lib.hid e3
                        have HE2 := Lib.hid e2
                        clear q1 q2 q3 e3 e2
                        go_wp2_with fail
                        refine HCU.out.mono ?_
                        rintro e w8 ⟨rfl, h8, hk8⟩
                        have H8 := Lib.hid (h8.less (K' := fun b => (Value.slice va1' N1 vc1).ownBlock = some b) (fun b hb => .inl hb))
                        have hrow8 := HS3.out.row.kept (w' := w8) (fun b hb => hk8 b (.inl hb))
                        rw [HN1.out] at hrow8
                        have HROW8 := Lib.hid hrow8
                        have hll := lg_len H8.out.live
                        unfold ptr at hll
                        rw [HE2.out, HN1.out] at hll
                        have HLL := Lib.hid hll
                        have hsl : s2 ≤ N1 := by have := HE3.out.le; rw [HN1.out] at this; exact this
                        clear h8 hk8 hrow8 hll
                        go_wp2_with fail
                        refine HLL.out.mono ?_
                        rintro e w9 ⟨rfl, rfl⟩
                        go_upto_region 27 with fail
                        refine Code.wp_mono ?_ (kept_tail w w8 w.heap.size D3 all1 s2 none chg byt va1' N1 vc1 s2 H8.out.disk HE3.out (by have h : (Lg.bytesOf all1).length ≤ (2 * j + 1) * 1015 := HS3.out.fit.bytes; omega) HROW8.out.reads HN1.out (by omega) (row_rest HROW8.out).1 (row_rest HROW8.out).2.1 (row_rest HROW8.out).2.2 (by show s2 = min s2 N1; omega))
                        intro e a' w' h
                        cases e <;> first | exact h | (apply_assumption; exact h)
                      · have hz : (eC == 0) = false := by simpa using q1
                        have e3 : Lg.Kept D3 all1 s2 (some kq) := q3
                        have e2 : L3.rs = all1.take kq := q2
                        have HE3 := Lib.hid e3
                        have HE2 := Lib.hid e2
                        clear q1 q2 q3 e3 e2
                        go_wp2_with fail
                        refine HCU.out.mono ?_
                        rintro e w8 ⟨rfl, h8, hk8⟩
                        have H8 := Lib.hid (h8.less (K' := fun b => (Value.slice va1' N1 vc1).ownBlock = some b) (fun b hb => .inl hb))
                        have hrow8 := HS3.out.row.kept (w' := w8) (fun b hb => hk8 b (.inl hb))
                        rw [HN1.out] at hrow8
                        have HROW8 := Lib.hid hrow8
                        have hlk : (all1.take kq).length = kq := by rw [List.length_take, HN1.out]; omega
                        have hll := lg_len H8.out.live
                        unfold ptr at hll
                        rw [HE2.out, hlk] at hll
                        have HLL := Lib.hid hll
                        have hsl : s2 ≤ N1 := by have := HE3.out.le; rw [HN1.out] at this; exact this
                        have hmn : min (s2 : Int) (kq : Int) = ((min s2 kq : Nat) : Int) := by omega
                        clear h8 hk8 hrow8 hll hlk
                        go_wp2_with fail
                        refine HLL.out.mono ?_
                        rintro e w9 ⟨rfl, rfl⟩
                        go_upto_region 26 with fail
                        go_wp2_with fail
                        refine HLL.out.mono ?_
                        rintro e w9 ⟨rfl, rfl⟩
                        go_upto_region 27 with fail
                        refine Code.wp_mono ?_ (kept_tail w w8 w.heap.size D3 all1 s2 (some kq) chg byt va1' N1 vc1 (min s2 kq) H8.out.disk HE3.out (by have h : (Lg.bytesOf all1).length ≤ (2 * j + 1) * 1015 := HS3.out.fit.bytes; omega) HROW8.out.reads HN1.out (by omega) (row_rest HROW8.out).1 (row_rest HROW8.out).2.1 (row_rest HROW8.out).2.2 rfl)
                        intro e a' w' h
                        cases e <;> first | exact h | (apply_assumption; exact h)
                    · have e1 : IntKind.i64.wrap ((N1 : Int) - ct) = (N1 : Int) - ct := IntWalk.i64_in _ (by omega)
                      have hd2 : decide ((0 : Int) ≤ (N1 : Int) - ct) = false := by simp; omega
                      have hd3 : ¬ (0 : Int) ≤ (N1 : Int) - ct := by omega
                      have hd4 : decide (ct ≤ (N1 : Int)) = false := by simp; omega
                      go_wp2_with fail
                      go_roundw
                      case rel => exact ⟨j + 1, D2, all1, s2, by omega, by go_num, rfl, Lib.hid (HS3.out.weak (by omega)), by rw [HN1.out]; omega⟩
                      case measure => simp [intOf]; omega
                  · have hd1 : decide ((0 : Int) < ct) = false := by simpa using hc1
                    have hd5 : decide (ct ≤ 0) = true := by simp; omega
                    obtain ⟨q, hq⟩ : ∃ q, IntKind.i64.wrap ((N1 : Int) - ct) = q := ⟨_, rfl⟩
                    go_wp2_with fail
                    go_roundw
                    case rel => exact ⟨j + 1, D2, all1, s2, by omega, by go_num, rfl, Lib.hid (HS3.out.weak (by omega)), by rw [HN1.out]; omega⟩
                    case measure => simp [intOf]; omega
        · have hje : j = m := by omega
          subst hje
          have hjj : ¬ (j : Int) < (j : Int) := by omega
          clear hlt
          obtain ⟨va1', vc1, hvs⟩ := HS.out.row.reads.shape
          subst hvs
          obtain ⟨N1, hN1⟩ : ∃ N, all.length = N := ⟨_, rfl⟩
          have HN1 := Lib.hid hN1
          have hs3 := HS.out
          rw [hN1] at hs3 hLj
          rw [hN1]
          have HS3 := Lib.hid hs3
          have hll := lg_len hs3.log.live
          unfold ptr at hll
          rw [show (Lg.St.mk all s).rs = all from rfl, hN1] at hll
          have HLL := Lib.hid hll
          have hrow8 := hs3.row
          rw [hN1] at hrow8
          have HROW8 := Lib.hid hrow8
          have hsl : s ≤ N1 := by have := hs3.kept.le; rw [hN1] at this; exact this
          clear HS hs3 hN1 hll hrow8
          go_wp2_with fail
          refine HLL.out.mono ?_
          rintro e w9 ⟨rfl, rfl⟩
          go_upto_region 27 with fail
          refine Code.wp_mono ?_ (kept_tail w wr w.heap.size D all s none chg byt va1' N1 vc1 s HS3.out.log.disk HS3.out.kept (by have h : (Lg.bytesOf all).length ≤ 2 * j * 1015 := HS3.out.fit.bytes; omega) HROW8.out.reads HN1.out (by omega) (row_rest HROW8.out).1 (row_rest HROW8.out).2.1 (row_rest HROW8.out).2.2 (by show s = min s N1; omega))
          intro e a' w' h
          cases e <;> first | exact h | (apply_assumption; exact h)

end Go.Proofs.Ytdkhidajmhmjpaa
