/-
  The walk through LogRow.
-/
import Derived.Test.YtdkhidajmhmjpaaRecRow
import Derived.Test.YtdkhidajmhmjpaaLogHolds
import Derived.Test.YtdkhidajmhmjpaaArgsRec
import Derived.BigRegion
namespace Go.Proofs.Ytdkhidajmhmjpaa
open Go.RowKit
set_option maxRecDepth 20000

theorem LgK.only' {w0 w w' : World} {l d : Nat} {file : Int} {D : Dk.St} {L : Lg.St} {K S : Nat → Prop} (h : LgK w0 w l d file D L K) (ho : Only S w w') (hS : ∀ k, S k → K k ∧ w0.heap.size ≤ k) : LgK w0 w' l d file D L (fun k => K k ∨ (w.heap.size ≤ k ∧ k < w'.heap.size)) := by
  obtain ⟨F, G, h1, h2, h3, h4, h5, h6, h7⟩ := h
  have hs := ho.size
  refine ⟨F, G, h1.only ho (fun k hk hs => (h7 k (hS k hs).1).2.1 hk), h2.only ho (fun k hk hs => (h7 k (hS k hs).1).2.2 hk), h3, h4, h5, h6.trans (ho.toBelow h6.size (fun i hi => (hS i hi).2)), fun k hk => ?_⟩
  rcases hk with hk | ⟨hk, hk'⟩
  · obtain ⟨h8, h9⟩ := h7 k hk
    exact ⟨by omega, h9⟩
  · exact ⟨hk', fun hf => by have := h1.lt k hf; omega, fun hg => by have := h2.lt k hg; omega⟩

theorem LgK.log {w0 w : World} {l d : Nat} {file : Int} {D : Dk.St} {L : Lg.St} {K : Nat → Prop} (h : LgK w0 w l d file D L K) : ∃ G, LogAt w l d file L G := by
  obtain ⟨F, G, h1, h2, -⟩ := h
  exact ⟨G, h2⟩

def recT (v : Value) (rs : List Lg.Rec) (w : World) : Prop := RowAt w 33 4 v rs.length (recCells rs)

/-- A row of nothing. -/
theorem RowAt.zero {w : World} {e : TypeId} {size : Nat} : RowAt w e size (.slice none 0 0) 0 [] := .inl (World.ownsRow_nil _ _ _ _)

theorem RowAt.cut0 {w : World} {e : TypeId} {size : Nat} {v : Value} {n : Nat} {xs : List Value} (h : RowAt w e size v n xs) (k : Nat) (hk : k ≤ n) :
    ∃ a c, v = .slice a n c ∧ n ≤ c ∧ c ≤ maxLen ∧ (a = none → n = 0 ∧ c = 0) ∧ RowAt w e size (.slice a k k) k (xs.take (k * size)) := by
  by_cases hn : 0 < n
  · obtain ⟨g, c, rfl, h1, h2, h3⟩ := h.cut k hk hn
    exact ⟨_, _, rfl, h1, h2, (fun e => by cases e), h3⟩
  · have hn0 : n = 0 := by omega
    have hk0 : k = 0 := by omega
    subst hn0
    subst hk0
    rw [Nat.zero_mul, List.take_zero]
    rcases h with ⟨h1, h2⟩ | ⟨h1, g, cur, rfl, h2, h3, h4, h5⟩
    · rcases h2 with ⟨rfl, -⟩ | ⟨g, c, cur, rfl, -, h2, h3, h4, h5, h6⟩
      · exact ⟨none, 0, rfl, Nat.le_refl _, Nat.zero_le _, (fun _ => ⟨rfl, rfl⟩), RowAt.zero⟩
      · exact ⟨_, c, rfl, h3, h4, (fun e => by cases e), .inr ⟨by simp, g, cur, rfl, h2, Nat.zero_le _, by omega, by simp⟩⟩
    · exact ⟨_, 0, rfl, Nat.le_refl _, h3, (fun e => by cases e), .inr ⟨by simp, g, cur, rfl, h2, Nat.zero_le _, by omega, by simp⟩⟩

/-- Behind an append of one record to a row that is none of the log's. -/
theorem LgK.push {w0 w w' : World} {l d g : Nat} {file : Int} {D : Dk.St} {L : Lg.St} {K : Nat → Prop} {v : Value} {o : Obj} (h : LgK w0 w l d file D L K) (hv : ∀ b, v.ownBlock = some b → K b ∧ w0.heap.size ≤ b)
    (hg : (w.alloc o).grownBy w' v.ownBlock) (hat : v.ownBlock = some g ∨ (w.alloc o).heap.size ≤ g) (hlt : g < w'.heap.size) (K' : Nat → Prop) (hK : ∀ k, K' k → K k) : LgK w0 w' l d file D L (fun k => K' k ∨ k = g) := by
  have hs0 := h.bel.size
  have hs : (w.alloc o).heap.size = w.heap.size + 1 := by simp
  have h1 := h.grow (bel_alloc w o)
  have ho : Only (fun b => v.ownBlock = some b) (w.alloc o) w' := ⟨hg.os, hg.tape, hg.output, hg.size, fun k hk hn => hg.block k hk (fun e => hn e.symm)⟩
  refine (h1.only' ho (fun k hk => ⟨.inl (hv k hk).1, (hv k hk).2⟩)).less (fun k hk => ?_)
  rcases hk with hk | rfl
  · exact .inl (.inl (hK k hk))
  · rcases hat with h | h
    · exact .inl (.inl (hv _ h).1)
    · exact .inr ⟨h, hlt⟩

/-- A piece of code that comes to one end: what is there is said once. -/
def Ends (aF : Act) (R : World → Prop) : Exit → Act → World → Prop
  | .normal, a', w' => a' = aF ∧ R w'
  | _, _, _ => False
theorem wp_cut {P : Program} {c : Code} {Q : Exit → Act → World → Prop} {a : Act} {w : World} (R : World → Prop) (h : ∃ aF, c.wp P (Ends aF R) a w ∧ ∀ w', R w' → Q .normal aF w') : c.wp P Q a w := by
  obtain ⟨aF, h1, h2⟩ := h
  refine Code.wp_mono ?_ h1
  intro e a' w' h
  cases e with
  | normal =>
    obtain ⟨rfl, h⟩ := h
    exact h2 w' h
  | _ => exact h.elim

set_option maxHeartbeats 8000000 in
theorem logRow_walk (v : Value) (l : List LRec) (w : World) (hr : Reads w v l.length (lrecCells l)) (hi : ∀ r ∈ l, (Lit.int .u8 r.kind).wf = true ∧ r.text.size ≤ maxLen ∧ (Lit.int .i64 r.cut).wf = true) :
    Calls Try.prog 5 #[v] w fun e w' => e = .returned (.bool true) ∧ Below w.heap.size w w' := by
  have hlen := hr.lenLe
  unfold maxLen at hlen
  have HR := Lib.hid hr
  have HI := Lib.hid hi
  obtain ⟨a, c, rfl⟩ := hr.shape
  obtain ⟨i0, hi0, hz0, hz1, hz2⟩ := info_parts infoLawRec
  clear hr hi
  by_cases hbig : 100 < l.length
  · have hb1 : (100 : Int) < (l.length : Int) := by omega
    go_enter Try.func5, Try.ntmps5
    go_wp2_with fail
    refine (lworks_any _).mono ?_
    rintro e w1 ⟨rfl, hb⟩
    go_wp2_with fail
    go_ret
    exact ⟨rfl, hb⟩
  · have hb1 : ¬ (100 : Int) < (l.length : Int) := by omega
    obtain ⟨m, hm⟩ : ∃ m, l.length = m := ⟨_, rfl⟩
    have HM := Lib.hid hm
    rw [hm] at hb1 hlen hbig
    rw [hm]
    go_enter Try.func5, Try.ntmps5
    go_wp2_with fail
    refine (live_new 4194304 w (by decide)).mono ?_
    rintro e w1 ⟨rfl, h⟩
    have H := Lib.hid (show Live w w1 w.heap.size (Dk.fresh 4194304) from h)
    clear h
    unfold ptr
    go_wp2_with fail
    refine (lg_open0 H.out ⟨rfl, rfl⟩ [] [] (by kernel_rfl) (by kernel_rfl) (by decide) (by decide)).mono ?_
    rintro e w2 ⟨n, rfl, h⟩
    have HN := Lib.hid (show LgLive w w2 n w.heap.size 0 (Dk.fresh 4194304) ⟨[], 0⟩ from h)
    clear h
    unfold ptr
    go_wp2_with fail
    go_loopw [7, 34] (fun va i wr => ∃ (j : Nat) (D : Dk.St) (L : Lg.St), j ≤ m ∧ i = .int .i64 (j : Int) ∧ Hid (LgK w wr n w.heap.size 0 D L (fun b => va.ownBlock = some b)) ∧ Hid (recT va L.rs wr) ∧ Hid (∀ b, va.ownBlock = some b → w.heap.size ≤ b) ∧ Hid (Lg.Holds D 0 L) ∧ Hid (Lg.Fit (2 * j) D L) ∧ L.rs.length ≤ j) (fun _ i _ => m - (intOf i).toNat)
    case atStart => exact ⟨0, _, _, Nat.zero_le _, rfl, Lib.hid (HN.out.keep.less (fun k hk => by cases hk)), Lib.hid RowAt.zero, Lib.hid (fun b hb => by cases hb), Lib.hid (Lg.Holds.fresh 0 (by decide)), Lib.hid ⟨Nat.zero_le _, Nat.zero_le _⟩, Nat.zero_le _⟩
    case round =>
      obtain ⟨j, D, L, hj, rfl, HS, HV, HVB, HH, HF, hLj⟩ := hrel
      obtain ⟨va, rfl⟩ : ∃ x, x = u7 := ⟨_, rfl⟩
      by_cases hlt : j < m
      · obtain ⟨x, hx⟩ : ∃ x, l[j]? = some x := ⟨l[j]'(by rw [HM.out]; omega), by simp⟩
        have hrr := HR.out
        obtain ⟨b, o, rfl, hblt, r0, r1, r2, r3⟩ := reads4r hrr j x hx
        have hbl := HS.out.bel
        have r0 := (World.cell?_of_block (hbl.block b hblt)).trans r0
        have r1 := (World.cell?_of_block (hbl.block b hblt)).trans r1
        have r2 := (World.cell?_of_block (hbl.block b hblt)).trans r2
        have r3 := (World.cell?_of_block (hbl.block b hblt)).trans r3
        have hjk : (j : Int) < (m : Int) := by omega
        obtain ⟨i1, i2, i3⟩ := HI.out x (List.mem_of_getElem? hx)
        have hk := lrec_kind i1
        have hk0 := bounds_u8 i1
        have hct := bounds_i64 i3
        unfold maxLen at i2
        clear hbl hx hrr i1 i3
        obtain ⟨k, t, s, ct⟩ := x
        simp only at r0 r1 r2 r3 i2 hk hk0 hct
        have HK1 := Lib.hid ((HS.out.grow (bel_alloc wr (.cells #[.int .u8 k, .string t, .bool s, .int .i64 ct] 33))).less (K' := fun b => va.ownBlock = some b ∨ b = wr.heap.size) (fun b e => by
          rcases e with e | e
          · exact .inl e
          · exact .inr ⟨by omega, by rw [e]; simp⟩))
        by_cases hts : 1000 < t.size
        · have hts2 : (1000 : Int) < (t.size : Int) := by omega
          go_wp2_with fail
          refine (lworks_any _).mono ?_
          rintro e w5 ⟨rfl, hb⟩
          have H := Lib.hid (HK1.out.live.below hb)
          clear hb
          go_wp2_with fail
          go_ret
          exact ⟨rfl, H.out.bel⟩
        · have hts2 : ¬ (1000 : Int) < (t.size : Int) := by omega
          go_wp2_with fail
          obtain ⟨V, hV⟩ : ∃ V, wr.alloc (.cells #[.int .u8 k, .string t, .bool s, .int .i64 ct] 33) = V := ⟨_, rfl⟩
          have hxn := heap_alloc_new wr (.cells #[.int .u8 k, .string t, .bool s, .int .i64 ct] 33)
          have hva := HV.out.kept (w' := wr.alloc (.cells #[.int .u8 k, .string t, .bool s, .int .i64 ct] 33)) (fun g hg => Below.heap_alloc _ _ _ (by obtain ⟨cur, hcur⟩ := HV.out.type g hg; exact (Array.getElem?_eq_some_iff.1 hcur).1))
          have hvg : ∀ b, va.ownBlock = some b → b < wr.heap.size := fun b hb => by
            obtain ⟨cur, hcur⟩ := HV.out.type b hb
            exact (Array.getElem?_eq_some_iff.1 hcur).1
          obtain ⟨g, hg⟩ : ∃ g, wr.heap.size = g := ⟨_, rfl⟩
          have hgw : w.heap.size ≤ g := by rw [← hg]; exact HS.out.bel.size
          rw [hV] at HK1 hxn hva ⊢
          rw [hg] at HK1 hxn hvg ⊢
          clear hV hg
          have s0 := cells_at hxn 0 _ rfl
          have s1 := cells_at hxn 1 _ rfl
          simp only [List.getElem_toArray, List.getElem_cons_zero, List.getElem_cons_succ] at s0 s1
          have HXN := Lib.hid hxn
          have HVA := Lib.hid hva
          clear hxn hva
          go_wp2_with fail
          have HKd := Lib.hid ((HK1.out.grow (bel_drew V)).less (K' := fun b => va.ownBlock = some b ∨ b = g) (fun b h => .inl h))
          have hput := lgk_put HKd.out (⟨UInt8.ofNat k.toNat, t⟩ : Lg.Rec) (by show t.size ≤ _; omega) (by have := HF.out.loose; omega) (by have := HF.out.bytes; omega)
          rw [hk] at hput
          unfold ptr at hput
          have hf1 := HF.out.put 0 ⟨UInt8.ofNat k.toNat, t⟩ (by show t.size ≤ _; omega)
          have hHH : k = 0 ∧ Lg.put D 0 L ⟨UInt8.ofNat k.toNat, t⟩ = (2, D, L) ∨ k ≠ 0 ∧ (Lg.put D 0 L ⟨UInt8.ofNat k.toNat, t⟩).1 = 0 ∧ (Lg.put D 0 L ⟨UInt8.ofNat k.toNat, t⟩).2.2 = { L with rs := L.rs ++ [⟨UInt8.ofNat k.toNat, t⟩] } ∧ Lg.Holds (Lg.put D 0 L ⟨UInt8.ofNat k.toNat, t⟩).2.1 0 { L with rs := L.rs ++ [⟨UInt8.ofNat k.toNat, t⟩] } := by
            by_cases hk0' : k = 0
            · exact .inl ⟨hk0', Lg.Holds.put_bad ⟨UInt8.ofNat k.toNat, t⟩ (by show (UInt8.ofNat k.toNat).toNat = 0; rw [hk0']; rfl)⟩
            · exact .inr ⟨hk0', HH.out.put (by decide) ⟨UInt8.ofNat k.toNat, t⟩ (by show (UInt8.ofNat k.toNat).toNat ≠ 0; omega) (by show t.size ≤ 1000; omega) (by have := HF.out.bytes; omega)⟩
          obtain ⟨eP, D1, L1, hP⟩ : ∃ e D' L', Lg.put D 0 L ⟨UInt8.ofNat k.toNat, t⟩ = (e, D', L') := ⟨_, _, _, rfl⟩
          rw [hP] at hput hf1 hHH
          have HPUT := Lib.hid hput
          have HF1 := Lib.hid (show Lg.Fit (2 * j + 1) D1 L1 from hf1)
          have HHH := Lib.hid hHH
          clear hput hf1 hHH hP
          refine wp_cut (fun w5 => LgK w w5 n w.heap.size 0 D1 L1 (fun b => va.ownBlock = some b ∨ b = g) ∧ ∀ b, va.ownBlock = some b ∨ b = g → w5.heap[b]? = V.heap[b]?) ?_
          apply Exists.intro
          apply And.intro
          · go_region_law (go_simp; go_at_call 12; refine HPUT.out.mono ?_; rintro e w5 ⟨rfl, h5, hk5⟩; have s0' := (World.cell?_of_block (hk5 g (.inr rfl))).trans s0)
            all_goals exact ⟨rfl, h5, hk5⟩
          · rintro w5 ⟨h5, hk5⟩
            rcases HHH.out with ⟨hk0', hPe⟩ | ⟨hk0', p1, p2, p3⟩
            · injection hPe with q1 q2
              injection q2 with q2 q3
              subst q1; subst q2; subst q3
              subst hk0'
              have HX5 := Lib.hid ((hk5 g (.inr rfl)).trans HXN.out)
              have HV1 : Hid (recT va L1.rs w5) := Lib.hid (HVA.out.kept (fun b hb => hk5 b (.inl hb)))
              have HVB1 := HVB
              have HH1 := HH
              have hL1j : L1.rs.length ≤ j + 1 := by omega
              have HK5 := Lib.hid h5
              have s0' := (World.cell?_of_block (hk5 g (.inr rfl))).trans s0
              clear h5 hk5
              obtain ⟨va1, hva1⟩ : ∃ x, va = x := ⟨_, rfl⟩
              rw [hva1] at HK5 HV1 HVB1 ⊢
              clear hva1
              have hx5 := HX5.out
              have s3 := cells_at hx5 3 _ rfl
              simp only [List.getElem_toArray, List.getElem_cons_zero, List.getElem_cons_succ] at s3
              clear hx5
              obtain ⟨va1', vc1, hvs⟩ := HV1.out.reads.shape
              subst hvs
              obtain ⟨q, hq⟩ : ∃ q, IntKind.i64.wrap ((L1.rs.length : Int) - ct) = q := ⟨_, rfl⟩
              have hlen1 : (L1.rs.length : Int) ≤ 101 := by omega
              have HLO := Lib.hid (lgk_cut HK5.out q (by have := HF1.out.loose; omega))
              obtain ⟨N1, hN1⟩ : ∃ N, L1.rs.length = N := ⟨_, rfl⟩
              have HN1 := Lib.hid hN1
              rw [hN1] at hq hlen1 hL1j ⊢
              clear hN1
              have hcu := HLO.out
              unfold ptr at hcu
              have hcutF := HF1.out.cut 0 q
              by_cases hqr : 0 ≤ q ∧ q ≤ (N1 : Int)
              · obtain ⟨kq, rfl⟩ : ∃ kq : Nat, q = kq := ⟨q.toNat, by omega⟩
                obtain ⟨c1, c2, c3⟩ := HH1.out.cut (by decide) kq (by rw [HN1.out]; omega)
                rw [show ((0 : Nat) : Int) = 0 from rfl] at c1 c2 c3
                obtain ⟨e6, D2, L2, hc⟩ : ∃ e D L, Lg.cut D1 0 L1 (kq : Int) = (e, D, L) := ⟨_, _, _, rfl⟩
                rw [hc] at c1 c2 c3 hcu hcutF
                have c1 : e6 = 0 := c1
                subst c1
                have hkn : kq ≤ N1 := by omega
                have hq1 : decide ((0 : Int) ≤ (kq : Int)) = true := by simp
                have hq2 : decide ((kq : Int) ≤ (N1 : Int)) = true := by simp; omega
                have HCU := Lib.hid hcu
                have HC2 := Lib.hid c2
                have HH2 := Lib.hid c3
                have HF2 := Lib.hid hcutF
                clear hcu c2 c3 hcutF hc hqr
                go_wp2_with fail
                refine HCU.out.mono ?_
                rintro e w6 ⟨rfl, h6, hk6⟩
                have hv6 : RowAt w6 33 4 (.slice va1' N1 vc1) N1 (recCells L1.rs) := by
                  have h1 := HV1.out
                  unfold recT at h1
                  have h2 := h1.kept (w' := w6) (fun b hb => hk6 b (.inl hb))
                  rw [HN1.out] at h2
                  exact h2
                obtain ⟨ca, cc, hce, hcl, hcm, hcz, hcr⟩ := hv6.cut0 kq hkn
                simp only [Value.slice.injEq, true_and] at hce
                obtain ⟨h1, h2⟩ := hce
                subst h1
                subst h2
                unfold maxLen at hcm
                have hkc : kq ≤ vc1 := by omega
                have hck : ∀ b, (Value.slice va1' kq kq).ownBlock = some b → (Value.slice va1' N1 vc1).ownBlock = some b := fun b hb => by
                  cases va1' with
                  | none => cases hb
                  | some ad => exact hb
                have HK2 := Lib.hid (h6.less (K' := fun b => (Value.slice va1' kq kq).ownBlock = some b) (fun b hb => .inl (by have := hck b hb; rw [HN1.out]; exact this)))
                have hV2 : recT (.slice va1' kq kq) L2.rs w6 := by
                  have e2 : L2.rs = L1.rs.take kq := HC2.out
                  unfold recT
                  rw [e2, ← recCells_take, List.length_take, HN1.out, Nat.min_eq_left hkn]
                  exact hcr
                have HV2 := Lib.hid hV2
                have HVB2 : Hid (∀ b, (Value.slice va1' kq kq).ownBlock = some b → w.heap.size ≤ b) := Lib.hid (fun b hb => HVB1.out b (by have := hck b hb; rw [HN1.out]; exact this))
                have hN : L2.rs.length = kq := by
                  have e2 : L2.rs = L1.rs.take kq := HC2.out
                  rw [e2, List.length_take, HN1.out]
                  omega
                have hL2j : L2.rs.length ≤ j + 1 := by rw [hN]; omega
                clear h6 hk6 hv6 hcr hV2
                cases va1' with
                | none =>
                  obtain ⟨z1, z2⟩ := hcz rfl
                  subst z1
                  subst z2
                  have hk0' : kq = 0 := by omega
                  subst hk0'
                  clear hcz
                  go_wp2_with fail
                  obtain ⟨va2, hva2⟩ : ∃ v, Value.slice none 0 0 = v := ⟨_, rfl⟩
                  rw [hva2] at HK2 HV2 HVB2
                  obtain ⟨G, hLG⟩ := HK2.out.log
                  have htx := texts_any _ n w.heap.size 0 L2 G hLG (by omega)
                  unfold ptr at htx
                  clear hLG
                  have HNN := Lib.hid hN
                  rw [hN] at htx hL2j
                  clear hN
                  go_wp2_with fail
                  refine htx.mono ?_
                  clear htx
                  rintro e w7 ⟨got, rfl, hown, hb7⟩
                  have HLV := Lib.hid (HK2.out.live.below hb7)
                  have hrg := Reads.own hown
                  obtain ⟨ga, gc, rfl⟩ := hrg.shape
                  have hra : Reads w7 va2 L2.rs.length (recCells L2.rs) := (HV2.out.kept (fun b hb => by obtain ⟨cur, hcur⟩ := HV2.out.type b hb; exact hb7.block b (Array.getElem?_eq_some_iff.1 hcur).1)).reads
                  subst hva2
                  rw [HNN.out] at hra
                  have HRG := Lib.hid hrg
                  have HRA := Lib.hid hra
                  have HB7 := Lib.hid hb7
                  have hsle := HLV.out.sure
                  rw [HNN.out] at hsle
                  clear hown hrg hra hb7
                  have hN9 : 0 ≤ 200 := by omega
                  have hsl := lg_sure HLV.out
                  have hll := lg_len HLV.out
                  unfold ptr at hsl hll
                  rw [HNN.out] at hll
                  obtain ⟨su, hsu⟩ : ∃ su, L2.sure = su := ⟨_, rfl⟩
                  rw [hsu] at hsle hsl
                  clear hsu
                  have HSL := Lib.hid hsl
                  have HLL := Lib.hid hll
                  clear hsl hll
                  have hgt : decide (0 < su) = false := by simp; omega
                  have hgt2 : ¬ 0 < su := by omega
                  go_wp2_with fail
                  refine HSL.out.mono ?_
                  rintro e w8 ⟨rfl, rfl⟩
                  go_wp2_with fail
                  refine HLL.out.mono ?_
                  rintro e w8 ⟨rfl, rfl⟩
                  go_wp2_with fail
                  go_loopw [111] (fun i wz => ∃ q : Nat, q ≤ 0 ∧ i = .int .i64 (q : Int) ∧ Hid (Below w7.heap.size w7 wz)) (fun i _ => 0 - (intOf i).toNat)
                  case atStart => exact ⟨0, Nat.zero_le _, rfl, Lib.hid (Below.refl _ _)⟩
                  case round =>
                    obtain ⟨q, hq, rfl, HBZ⟩ := hrel
                    have hqe : q = 0 := by omega
                    subst hqe
                    go_wp2_with fail
                    go_roundw
                    case rel =>
                      have hb6 := HB7.out.trans (HBZ.out.mono HB7.out.size)
                      refine ⟨j + 1, D2, L2, by omega, by go_num, Lib.hid ((HK2.out.grow hb6).less (fun b hb => .inl hb)), Lib.hid ?_, HVB2, HH2, Lib.hid (HF2.out.mono (by omega)), by rw [HNN.out]; omega⟩
                      exact HV2.out.kept (fun b hb => by obtain ⟨cur, hcur⟩ := HV2.out.type b hb; exact hb6.block b (Array.getElem?_eq_some_iff.1 hcur).1)
                    case measure => simp [intOf]; omega
                | some ad =>
                  clear hcz
                  go_wp2_with fail
                  obtain ⟨va2, hva2⟩ : ∃ v, Value.slice (some ad) kq kq = v := ⟨_, rfl⟩
                  rw [hva2] at HK2 HV2 HVB2
                  obtain ⟨G, hLG⟩ := HK2.out.log
                  have htx := texts_any _ n w.heap.size 0 L2 G hLG (by omega)
                  unfold ptr at htx
                  clear hLG
                  have HNN := Lib.hid hN
                  rw [hN] at htx hL2j
                  clear hN
                  go_wp2_with fail
                  refine htx.mono ?_
                  clear htx
                  rintro e w7 ⟨got, rfl, hown, hb7⟩
                  have HLV := Lib.hid (HK2.out.live.below hb7)
                  have hrg := Reads.own hown
                  obtain ⟨ga, gc, rfl⟩ := hrg.shape
                  have hra : Reads w7 va2 L2.rs.length (recCells L2.rs) := (HV2.out.kept (fun b hb => by obtain ⟨cur, hcur⟩ := HV2.out.type b hb; exact hb7.block b (Array.getElem?_eq_some_iff.1 hcur).1)).reads
                  subst hva2
                  rw [HNN.out] at hra
                  have HRG := Lib.hid hrg
                  have HRA := Lib.hid hra
                  have HB7 := Lib.hid hb7
                  have hsle := HLV.out.sure
                  rw [HNN.out] at hsle
                  clear hown hrg hra hb7
                  have hN9 : kq ≤ 200 := by omega
                  have hsl := lg_sure HLV.out
                  have hll := lg_len HLV.out
                  unfold ptr at hsl hll
                  rw [HNN.out] at hll
                  obtain ⟨su, hsu⟩ : ∃ su, L2.sure = su := ⟨_, rfl⟩
                  rw [hsu] at hsle hsl
                  clear hsu
                  have HSL := Lib.hid hsl
                  have HLL := Lib.hid hll
                  clear hsl hll
                  have hgt : decide (kq < su) = false := by simp; omega
                  have hgt2 : ¬ kq < su := by omega
                  go_wp2_with fail
                  refine HSL.out.mono ?_
                  rintro e w8 ⟨rfl, rfl⟩
                  go_wp2_with fail
                  refine HLL.out.mono ?_
                  rintro e w8 ⟨rfl, rfl⟩
                  go_wp2_with fail
                  go_loopw [111] (fun i wz => ∃ q : Nat, q ≤ kq ∧ i = .int .i64 (q : Int) ∧ Hid (Below w7.heap.size w7 wz)) (fun i _ => kq - (intOf i).toNat)
                  case atStart => exact ⟨0, Nat.zero_le _, rfl, Lib.hid (Below.refl _ _)⟩
                  case round =>
                    obtain ⟨q, hq, rfl, HBZ⟩ := hrel
                    by_cases hlt2 : q < kq
                    · obtain ⟨r, hr⟩ : ∃ r, L2.rs[q]? = some r := ⟨L2.rs[q]'(by rw [HNN.out]; omega), by simp⟩
                      have hqk : (q : Int) < (kq : Int) := by omega
                      have hrg := HRG.out
                      have hra := HRA.out
                      rw [← HNN.out] at hrg hra
                      obtain ⟨gb, go, hge, hgl, g0, g1, g2, g3⟩ := reads_rec hrg q r hr
                      obtain ⟨ab, ao, hae, hal, a0, a1, a2, a3⟩ := reads_rec hra q r hr
                      have gz : ∀ j v, w7.cell? ⟨gb, j, none⟩ = some v → wr.cell? ⟨gb, j, none⟩ = some v := fun j v h => (World.cell?_of_block (HBZ.out.block gb hgl)).trans h
                      have az : ∀ j v, w7.cell? ⟨ab, j, none⟩ = some v → wr.cell? ⟨ab, j, none⟩ = some v := fun j v h => (World.cell?_of_block (HBZ.out.block ab hal)).trans h
                      have g0 := gz _ _ g0
                      have g1 := gz _ _ g1
                      have g2 := gz _ _ g2
                      have g3 := gz _ _ g3
                      have a0 := az _ _ a0
                      have a1 := az _ _ a1
                      have a2 := az _ _ a2
                      have a3 := az _ _ a3
                      cases hge; cases hae
                      clear hrg hra gz az hr
                      obtain ⟨rk, rt⟩ := r
                      simp only at g0 g1 a0 a1
                      go_wp2_with fail
                      go_quiet (fail)
                      go_wp2_with fail
                      go_roundw
                      case rel => exact ⟨q + 1, by omega, by go_num, Lib.hid (bel_trans HBZ.out (bel_drewN _ _))⟩
                      case measure => simp [intOf]; omega
                    · have hqe : q = kq := by omega
                      subst hqe
                      have hqq : ¬ (q : Int) < (q : Int) := by omega
                      clear hlt2
                      go_wp2_with fail
                      go_roundw
                      case rel =>
                        have hb6 := HB7.out.trans (HBZ.out.mono HB7.out.size)
                        refine ⟨j + 1, D2, L2, by omega, by go_num, Lib.hid ((HK2.out.grow hb6).less (fun b hb => .inl hb)), Lib.hid ?_, HVB2, HH2, Lib.hid (HF2.out.mono (by omega)), by rw [HNN.out]; omega⟩
                        exact HV2.out.kept (fun b hb => by obtain ⟨cur, hcur⟩ := HV2.out.type b hb; exact hb6.block b (Array.getElem?_eq_some_iff.1 hcur).1)
                      case measure => simp [intOf]; omega
              · have hc := Lg.cut_range (D := D1) (f := 0) (L := L1) q (by rw [HN1.out]; exact hqr)
                rw [hc] at hcu hcutF
                have hqb : (decide ((0 : Int) ≤ q) && decide (q ≤ (N1 : Int))) = false := by
                  rw [Bool.and_eq_false_iff]
                  simp only [decide_eq_false_iff_not]
                  omega
                have HCU := Lib.hid hcu
                have HF2 := Lib.hid hcutF
                clear hcu hcutF hc
                by_cases hq0 : 0 ≤ q
                · have hq1 : decide ((0 : Int) ≤ q) = true := by simpa using hq0
                  have hq2 : decide (q ≤ (N1 : Int)) = false := by simp; omega
                  have hq3 : ¬ q ≤ (N1 : Int) := by omega
                  clear hqb hqr
                  go_wp2_with fail
                  refine HCU.out.mono ?_
                  rintro e w6 ⟨rfl, h6, hk6⟩
                  have HK2 := Lib.hid (h6.less (K' := fun b => (Value.slice va1' N1 vc1).ownBlock = some b) (fun b hb => .inl (by rw [HN1.out]; exact hb)))
                  have hV2 : recT (.slice va1' N1 vc1) L1.rs w6 := by
                    have h1 := HV1.out
                    unfold recT at h1 ⊢
                    have h2 := h1.kept (w' := w6) (fun b hb => hk6 b (.inl hb))
                    rw [HN1.out] at h2 ⊢
                    exact h2
                  have HV2 := Lib.hid hV2
                  have HVB2 : Hid (∀ b, (Value.slice va1' N1 vc1).ownBlock = some b → w.heap.size ≤ b) := Lib.hid (fun b hb => HVB1.out b (by rw [HN1.out]; exact hb))
                  have hN : L1.rs.length = N1 := HN1.out
                  have hL2j : L1.rs.length ≤ j + 1 := by rw [hN]; omega
                  clear h6 hk6 hV2
                  go_wp2_with fail
                  obtain ⟨va2, hva2⟩ : ∃ v, Value.slice va1' N1 vc1 = v := ⟨_, rfl⟩
                  rw [hva2] at HK2 HV2 HVB2
                  obtain ⟨G, hLG⟩ := HK2.out.log
                  have htx := texts_any _ n w.heap.size 0 L1 G hLG (by omega)
                  unfold ptr at htx
                  clear hLG
                  have HNN := Lib.hid hN
                  rw [hN] at htx hL2j
                  clear hN
                  go_wp2_with fail
                  refine htx.mono ?_
                  clear htx
                  rintro e w7 ⟨got, rfl, hown, hb7⟩
                  have HLV := Lib.hid (HK2.out.live.below hb7)
                  have hrg := Reads.own hown
                  obtain ⟨ga, gc, rfl⟩ := hrg.shape
                  have hra : Reads w7 va2 L1.rs.length (recCells L1.rs) := (HV2.out.kept (fun b hb => by obtain ⟨cur, hcur⟩ := HV2.out.type b hb; exact hb7.block b (Array.getElem?_eq_some_iff.1 hcur).1)).reads
                  subst hva2
                  rw [HNN.out] at hra
                  have HRG := Lib.hid hrg
                  have HRA := Lib.hid hra
                  have HB7 := Lib.hid hb7
                  have hsle := HLV.out.sure
                  rw [HNN.out] at hsle
                  clear hown hrg hra hb7
                  have hN9 : N1 ≤ 200 := by omega
                  have hsl := lg_sure HLV.out
                  have hll := lg_len HLV.out
                  unfold ptr at hsl hll
                  rw [HNN.out] at hll
                  obtain ⟨su, hsu⟩ : ∃ su, L1.sure = su := ⟨_, rfl⟩
                  rw [hsu] at hsle hsl
                  clear hsu
                  have HSL := Lib.hid hsl
                  have HLL := Lib.hid hll
                  clear hsl hll
                  have hgt : decide (N1 < su) = false := by simp; omega
                  have hgt2 : ¬ N1 < su := by omega
                  go_wp2_with fail
                  refine HSL.out.mono ?_
                  rintro e w8 ⟨rfl, rfl⟩
                  go_wp2_with fail
                  refine HLL.out.mono ?_
                  rintro e w8 ⟨rfl, rfl⟩
                  go_wp2_with fail
                  go_loopw [111] (fun i wz => ∃ q : Nat, q ≤ N1 ∧ i = .int .i64 (q : Int) ∧ Hid (Below w7.heap.size w7 wz)) (fun i _ => N1 - (intOf i).toNat)
                  case atStart => exact ⟨0, Nat.zero_le _, rfl, Lib.hid (Below.refl _ _)⟩
                  case round =>
                    obtain ⟨q, hq, rfl, HBZ⟩ := hrel
                    by_cases hlt2 : q < N1
                    · obtain ⟨r, hr⟩ : ∃ r, L1.rs[q]? = some r := ⟨L1.rs[q]'(by rw [HNN.out]; omega), by simp⟩
                      have hqk : (q : Int) < (N1 : Int) := by omega
                      have hrg := HRG.out
                      have hra := HRA.out
                      rw [← HNN.out] at hrg hra
                      obtain ⟨gb, go, hge, hgl, g0, g1, g2, g3⟩ := reads_rec hrg q r hr
                      obtain ⟨ab, ao, hae, hal, a0, a1, a2, a3⟩ := reads_rec hra q r hr
                      have gz : ∀ j v, w7.cell? ⟨gb, j, none⟩ = some v → wr.cell? ⟨gb, j, none⟩ = some v := fun j v h => (World.cell?_of_block (HBZ.out.block gb hgl)).trans h
                      have az : ∀ j v, w7.cell? ⟨ab, j, none⟩ = some v → wr.cell? ⟨ab, j, none⟩ = some v := fun j v h => (World.cell?_of_block (HBZ.out.block ab hal)).trans h
                      have g0 := gz _ _ g0
                      have g1 := gz _ _ g1
                      have g2 := gz _ _ g2
                      have g3 := gz _ _ g3
                      have a0 := az _ _ a0
                      have a1 := az _ _ a1
                      have a2 := az _ _ a2
                      have a3 := az _ _ a3
                      cases hge; cases hae
                      clear hrg hra gz az hr
                      obtain ⟨rk, rt⟩ := r
                      simp only at g0 g1 a0 a1
                      go_wp2_with fail
                      go_quiet (fail)
                      go_wp2_with fail
                      go_roundw
                      case rel => exact ⟨q + 1, by omega, by go_num, Lib.hid (bel_trans HBZ.out (bel_drewN _ _))⟩
                      case measure => simp [intOf]; omega
                    · have hqe : q = N1 := by omega
                      subst hqe
                      have hqq : ¬ (q : Int) < (q : Int) := by omega
                      clear hlt2
                      go_wp2_with fail
                      go_roundw
                      case rel =>
                        have hb6 := HB7.out.trans (HBZ.out.mono HB7.out.size)
                        refine ⟨j + 1, D1, L1, by omega, by go_num, Lib.hid ((HK2.out.grow hb6).less (fun b hb => .inl hb)), Lib.hid ?_, HVB2, HH1, Lib.hid (HF2.out.mono (by omega)), by rw [HNN.out]; omega⟩
                        exact HV2.out.kept (fun b hb => by obtain ⟨cur, hcur⟩ := HV2.out.type b hb; exact hb6.block b (Array.getElem?_eq_some_iff.1 hcur).1)
                      case measure => simp [intOf]; omega
                · have hq1 : decide ((0 : Int) ≤ q) = false := by simpa using hq0
                  clear hqb hqr
                  go_wp2_with fail
                  refine HCU.out.mono ?_
                  rintro e w6 ⟨rfl, h6, hk6⟩
                  have HK2 := Lib.hid (h6.less (K' := fun b => (Value.slice va1' N1 vc1).ownBlock = some b) (fun b hb => .inl (by rw [HN1.out]; exact hb)))
                  have hV2 : recT (.slice va1' N1 vc1) L1.rs w6 := by
                    have h1 := HV1.out
                    unfold recT at h1 ⊢
                    have h2 := h1.kept (w' := w6) (fun b hb => hk6 b (.inl hb))
                    rw [HN1.out] at h2 ⊢
                    exact h2
                  have HV2 := Lib.hid hV2
                  have HVB2 : Hid (∀ b, (Value.slice va1' N1 vc1).ownBlock = some b → w.heap.size ≤ b) := Lib.hid (fun b hb => HVB1.out b (by rw [HN1.out]; exact hb))
                  have hN : L1.rs.length = N1 := HN1.out
                  have hL2j : L1.rs.length ≤ j + 1 := by rw [hN]; omega
                  clear h6 hk6 hV2
                  go_wp2_with fail
                  obtain ⟨va2, hva2⟩ : ∃ v, Value.slice va1' N1 vc1 = v := ⟨_, rfl⟩
                  rw [hva2] at HK2 HV2 HVB2
                  obtain ⟨G, hLG⟩ := HK2.out.log
                  have htx := texts_any _ n w.heap.size 0 L1 G hLG (by omega)
                  unfold ptr at htx
                  clear hLG
                  have HNN := Lib.hid hN
                  rw [hN] at htx hL2j
                  clear hN
                  go_wp2_with fail
                  refine htx.mono ?_
                  clear htx
                  rintro e w7 ⟨got, rfl, hown, hb7⟩
                  have HLV := Lib.hid (HK2.out.live.below hb7)
                  have hrg := Reads.own hown
                  obtain ⟨ga, gc, rfl⟩ := hrg.shape
                  have hra : Reads w7 va2 L1.rs.length (recCells L1.rs) := (HV2.out.kept (fun b hb => by obtain ⟨cur, hcur⟩ := HV2.out.type b hb; exact hb7.block b (Array.getElem?_eq_some_iff.1 hcur).1)).reads
                  subst hva2
                  rw [HNN.out] at hra
                  have HRG := Lib.hid hrg
                  have HRA := Lib.hid hra
                  have HB7 := Lib.hid hb7
                  have hsle := HLV.out.sure
                  rw [HNN.out] at hsle
                  clear hown hrg hra hb7
                  have hN9 : N1 ≤ 200 := by omega
                  have hsl := lg_sure HLV.out
                  have hll := lg_len HLV.out
                  unfold ptr at hsl hll
                  rw [HNN.out] at hll
                  obtain ⟨su, hsu⟩ : ∃ su, L1.sure = su := ⟨_, rfl⟩
                  rw [hsu] at hsle hsl
                  clear hsu
                  have HSL := Lib.hid hsl
                  have HLL := Lib.hid hll
                  clear hsl hll
                  have hgt : decide (N1 < su) = false := by simp; omega
                  have hgt2 : ¬ N1 < su := by omega
                  go_wp2_with fail
                  refine HSL.out.mono ?_
                  rintro e w8 ⟨rfl, rfl⟩
                  go_wp2_with fail
                  refine HLL.out.mono ?_
                  rintro e w8 ⟨rfl, rfl⟩
                  go_wp2_with fail
                  go_loopw [111] (fun i wz => ∃ q : Nat, q ≤ N1 ∧ i = .int .i64 (q : Int) ∧ Hid (Below w7.heap.size w7 wz)) (fun i _ => N1 - (intOf i).toNat)
                  case atStart => exact ⟨0, Nat.zero_le _, rfl, Lib.hid (Below.refl _ _)⟩
                  case round =>
                    obtain ⟨q, hq, rfl, HBZ⟩ := hrel
                    by_cases hlt2 : q < N1
                    · obtain ⟨r, hr⟩ : ∃ r, L1.rs[q]? = some r := ⟨L1.rs[q]'(by rw [HNN.out]; omega), by simp⟩
                      have hqk : (q : Int) < (N1 : Int) := by omega
                      have hrg := HRG.out
                      have hra := HRA.out
                      rw [← HNN.out] at hrg hra
                      obtain ⟨gb, go, hge, hgl, g0, g1, g2, g3⟩ := reads_rec hrg q r hr
                      obtain ⟨ab, ao, hae, hal, a0, a1, a2, a3⟩ := reads_rec hra q r hr
                      have gz : ∀ j v, w7.cell? ⟨gb, j, none⟩ = some v → wr.cell? ⟨gb, j, none⟩ = some v := fun j v h => (World.cell?_of_block (HBZ.out.block gb hgl)).trans h
                      have az : ∀ j v, w7.cell? ⟨ab, j, none⟩ = some v → wr.cell? ⟨ab, j, none⟩ = some v := fun j v h => (World.cell?_of_block (HBZ.out.block ab hal)).trans h
                      have g0 := gz _ _ g0
                      have g1 := gz _ _ g1
                      have g2 := gz _ _ g2
                      have g3 := gz _ _ g3
                      have a0 := az _ _ a0
                      have a1 := az _ _ a1
                      have a2 := az _ _ a2
                      have a3 := az _ _ a3
                      cases hge; cases hae
                      clear hrg hra gz az hr
                      obtain ⟨rk, rt⟩ := r
                      simp only at g0 g1 a0 a1
                      go_wp2_with fail
                      go_quiet (fail)
                      go_wp2_with fail
                      go_roundw
                      case rel => exact ⟨q + 1, by omega, by go_num, Lib.hid (bel_trans HBZ.out (bel_drewN _ _))⟩
                      case measure => simp [intOf]; omega
                    · have hqe : q = N1 := by omega
                      subst hqe
                      have hqq : ¬ (q : Int) < (q : Int) := by omega
                      clear hlt2
                      go_wp2_with fail
                      go_roundw
                      case rel =>
                        have hb6 := HB7.out.trans (HBZ.out.mono HB7.out.size)
                        refine ⟨j + 1, D1, L1, by omega, by go_num, Lib.hid ((HK2.out.grow hb6).less (fun b hb => .inl hb)), Lib.hid ?_, HVB2, HH1, Lib.hid (HF2.out.mono (by omega)), by rw [HNN.out]; omega⟩
                        exact HV2.out.kept (fun b hb => by obtain ⟨cur, hcur⟩ := HV2.out.type b hb; exact hb6.block b (Array.getElem?_eq_some_iff.1 hcur).1)
                      case measure => simp [intOf]; omega
            · have p1 : eP = 0 := p1
              subst p1
              have e2 : L1 = { L with rs := L.rs ++ [⟨UInt8.ofNat k.toNat, t⟩] } := p2
              have e3 : Lg.Holds D1 0 { L with rs := L.rs ++ [⟨UInt8.ofNat k.toNat, t⟩] } := p3
              have hkp : decide ((0 : Int) < k) = true := by simp; omega
              have hkp2 : (0 : Int) < k := by omega
              have hkp3 : decide (k ≤ 0) = false := by simp; omega
              have hkp4 : ¬ k ≤ 0 := by omega
              have s0' := (World.cell?_of_block (hk5 g (.inr rfl))).trans s0
              have s1' := (World.cell?_of_block (hk5 g (.inr rfl))).trans s1
              have hrow : RowAt w5 33 4 va L.rs.length (recCells L.rs) := HVA.out.kept (fun b hb => hk5 b (.inl hb))
              have hgl5 : g < w5.heap.size := by
                have h1 := (hk5 g (.inr rfl)).trans HXN.out
                exact (Array.getElem?_eq_some_iff.1 h1).1
              have HX50 := Lib.hid ((hk5 g (.inr rfl)).trans HXN.out)
              have H5 := Lib.hid h5
              have HROW := Lib.hid hrow
              have HP2 := Lib.hid e2
              have HH1 : Hid (Lg.Holds D1 0 L1) := Lib.hid (by rw [e2]; exact e3)
              clear h5 hk5 hrow p2 p3 e2 e3
              simp only [hkp, beq_self_eq_true, Bool.not_true]
              go_wp2_with (at_builtin; refine wpList_append_row rfl _ _ 22 rfl 33 i0 (.agg #[.int .u8 0, .string ⟨#[]⟩, .bool false, .int .i64 0]) 4 40 Try.underlying22 hi0 hz0 hz1 hz2 rfl (by decide) va L.rs.length (recCells L.rs) (by rfl) (HROW.out.kept (fun b hb => Below.heap_alloc _ _ _ (by obtain ⟨cur, hcur⟩ := HROW.out.type b hb; exact (Array.getElem?_eq_some_iff.1 hcur).1))) ⟨w5.heap.size, 0, none⟩ 1 1 [.int .u8 k, .string t, .bool false, .int .i64 0] rfl rfl (by intro jj u hj; rw [addr_add, Nat.zero_add]; exact cell_row w5 _ _ jj u (by simpa using hj)) (by simp [Value.oneCell']) (by decide) (by unfold maxLen; omega) (by omega) ?_)
              intro gg cap w6 hown6 hgrow hat hltg
              have hvb := HVB.out
              have hK6 := H5.out.push (v := va) (g := gg) (K' := fun b => b = g) (fun b hb => ⟨.inl hb, hvb b hb⟩) hgrow (hat.imp id (fun h => by simpa using h)) hltg (fun b hb => .inr hb)
              have hgw6 : w.heap.size ≤ gg := by
                rcases hat with h | h
                · exact hvb gg h
                · have := H5.out.bel.size
                  omega
              have hvgg : va.ownBlock ≠ some g := fun e => by have := hvg g e; omega
              have HX5 := Lib.hid ((hgrow.block g (by simp; omega) (fun e => hvgg e.symm)).trans ((Below.heap_alloc _ _ _ hgl5).trans HX50.out))
              have e2 : L1.rs = L.rs ++ [⟨UInt8.ofNat k.toNat, t⟩] := by rw [HP2.out]
              have hl1 : L1.rs.length = L.rs.length + 1 := by rw [e2]; simp
              have HV1 : Hid (recT (.slice (some ⟨gg, 0, none⟩) (L.rs.length + 1) cap) L1.rs w6) := by
                refine Lib.hid (.inl ?_)
                rw [hl1, e2, recCells_snoc]
                have : recC ⟨UInt8.ofNat k.toNat, t⟩ = [.int .u8 k, .string t, .bool false, .int .i64 0] := by
                  unfold recC
                  rw [show ((UInt8.ofNat k.toNat).toNat : Int) = k from hk]
                rw [this]
                exact hown6
              have HVB1 : Hid (∀ b, (Value.slice (some ⟨gg, 0, none⟩) (L.rs.length + 1) cap).ownBlock = some b → w.heap.size ≤ b) := Lib.hid (fun b hb => by
                simp only [Value.ownBlock, Option.some.injEq] at hb
                omega)
              have HK5 := Lib.hid (hK6.less (K' := fun b => (Value.slice (some ⟨gg, 0, none⟩) (L.rs.length + 1) cap).ownBlock = some b ∨ b = g) (fun b hb => by
                rcases hb with hb | hb
                · simp only [Value.ownBlock, Option.some.injEq] at hb
                  exact .inr hb.symm
                · exact .inl hb))
              have hL1j : L1.rs.length ≤ j + 1 := by omega
              clear hown6 hgrow hat hltg hK6 hvb hgw6 hvgg e2 hl1 hgl5
              obtain ⟨va1, hva1⟩ : ∃ x, Value.slice (some ⟨gg, 0, none⟩) (L.rs.length + 1) cap = x := ⟨_, rfl⟩
              rw [hva1] at HK5 HV1 HVB1 ⊢
              clear hva1
              have hx5 := HX5.out
              have s3 := cells_at hx5 3 _ rfl
              simp only [List.getElem_toArray, List.getElem_cons_zero, List.getElem_cons_succ] at s3
              clear hx5
              obtain ⟨va1', vc1, hvs⟩ := HV1.out.reads.shape
              subst hvs
              obtain ⟨q, hq⟩ : ∃ q, IntKind.i64.wrap ((L1.rs.length : Int) - ct) = q := ⟨_, rfl⟩
              have hlen1 : (L1.rs.length : Int) ≤ 101 := by omega
              have HLO := Lib.hid (lgk_cut HK5.out q (by have := HF1.out.loose; omega))
              obtain ⟨N1, hN1⟩ : ∃ N, L1.rs.length = N := ⟨_, rfl⟩
              have HN1 := Lib.hid hN1
              rw [hN1] at hq hlen1 hL1j ⊢
              clear hN1
              have hcu := HLO.out
              unfold ptr at hcu
              have hcutF := HF1.out.cut 0 q
              by_cases hqr : 0 ≤ q ∧ q ≤ (N1 : Int)
              · obtain ⟨kq, rfl⟩ : ∃ kq : Nat, q = kq := ⟨q.toNat, by omega⟩
                obtain ⟨c1, c2, c3⟩ := HH1.out.cut (by decide) kq (by rw [HN1.out]; omega)
                rw [show ((0 : Nat) : Int) = 0 from rfl] at c1 c2 c3
                obtain ⟨e6, D2, L2, hc⟩ : ∃ e D L, Lg.cut D1 0 L1 (kq : Int) = (e, D, L) := ⟨_, _, _, rfl⟩
                rw [hc] at c1 c2 c3 hcu hcutF
                have c1 : e6 = 0 := c1
                subst c1
                have hkn : kq ≤ N1 := by omega
                have hq1 : decide ((0 : Int) ≤ (kq : Int)) = true := by simp
                have hq2 : decide ((kq : Int) ≤ (N1 : Int)) = true := by simp; omega
                have HCU := Lib.hid hcu
                have HC2 := Lib.hid c2
                have HH2 := Lib.hid c3
                have HF2 := Lib.hid hcutF
                clear hcu c2 c3 hcutF hc hqr
                go_wp2_with fail
                refine HCU.out.mono ?_
                rintro e w6 ⟨rfl, h6, hk6⟩
                have hv6 : RowAt w6 33 4 (.slice va1' N1 vc1) N1 (recCells L1.rs) := by
                  have h1 := HV1.out
                  unfold recT at h1
                  have h2 := h1.kept (w' := w6) (fun b hb => hk6 b (.inl hb))
                  rw [HN1.out] at h2
                  exact h2
                obtain ⟨ca, cc, hce, hcl, hcm, hcz, hcr⟩ := hv6.cut0 kq hkn
                simp only [Value.slice.injEq, true_and] at hce
                obtain ⟨h1, h2⟩ := hce
                subst h1
                subst h2
                unfold maxLen at hcm
                have hkc : kq ≤ vc1 := by omega
                have hck : ∀ b, (Value.slice va1' kq kq).ownBlock = some b → (Value.slice va1' N1 vc1).ownBlock = some b := fun b hb => by
                  cases va1' with
                  | none => cases hb
                  | some ad => exact hb
                have HK2 := Lib.hid (h6.less (K' := fun b => (Value.slice va1' kq kq).ownBlock = some b) (fun b hb => .inl (by have := hck b hb; rw [HN1.out]; exact this)))
                have hV2 : recT (.slice va1' kq kq) L2.rs w6 := by
                  have e2 : L2.rs = L1.rs.take kq := HC2.out
                  unfold recT
                  rw [e2, ← recCells_take, List.length_take, HN1.out, Nat.min_eq_left hkn]
                  exact hcr
                have HV2 := Lib.hid hV2
                have HVB2 : Hid (∀ b, (Value.slice va1' kq kq).ownBlock = some b → w.heap.size ≤ b) := Lib.hid (fun b hb => HVB1.out b (by have := hck b hb; rw [HN1.out]; exact this))
                have hN : L2.rs.length = kq := by
                  have e2 : L2.rs = L1.rs.take kq := HC2.out
                  rw [e2, List.length_take, HN1.out]
                  omega
                have hL2j : L2.rs.length ≤ j + 1 := by rw [hN]; omega
                clear h6 hk6 hv6 hcr hV2
                cases va1' with
                | none =>
                  obtain ⟨z1, z2⟩ := hcz rfl
                  subst z1
                  subst z2
                  have hk0' : kq = 0 := by omega
                  subst hk0'
                  clear hcz
                  go_wp2_with fail
                  obtain ⟨va2, hva2⟩ : ∃ v, Value.slice none 0 0 = v := ⟨_, rfl⟩
                  rw [hva2] at HK2 HV2 HVB2
                  obtain ⟨G, hLG⟩ := HK2.out.log
                  have htx := texts_any _ n w.heap.size 0 L2 G hLG (by omega)
                  unfold ptr at htx
                  clear hLG
                  have HNN := Lib.hid hN
                  rw [hN] at htx hL2j
                  clear hN
                  go_wp2_with fail
                  refine htx.mono ?_
                  clear htx
                  rintro e w7 ⟨got, rfl, hown, hb7⟩
                  have HLV := Lib.hid (HK2.out.live.below hb7)
                  have hrg := Reads.own hown
                  obtain ⟨ga, gc, rfl⟩ := hrg.shape
                  have hra : Reads w7 va2 L2.rs.length (recCells L2.rs) := (HV2.out.kept (fun b hb => by obtain ⟨cur, hcur⟩ := HV2.out.type b hb; exact hb7.block b (Array.getElem?_eq_some_iff.1 hcur).1)).reads
                  subst hva2
                  rw [HNN.out] at hra
                  have HRG := Lib.hid hrg
                  have HRA := Lib.hid hra
                  have HB7 := Lib.hid hb7
                  have hsle := HLV.out.sure
                  rw [HNN.out] at hsle
                  clear hown hrg hra hb7
                  have hN9 : 0 ≤ 200 := by omega
                  have hsl := lg_sure HLV.out
                  have hll := lg_len HLV.out
                  unfold ptr at hsl hll
                  rw [HNN.out] at hll
                  obtain ⟨su, hsu⟩ : ∃ su, L2.sure = su := ⟨_, rfl⟩
                  rw [hsu] at hsle hsl
                  clear hsu
                  have HSL := Lib.hid hsl
                  have HLL := Lib.hid hll
                  clear hsl hll
                  have hgt : decide (0 < su) = false := by simp; omega
                  have hgt2 : ¬ 0 < su := by omega
                  go_wp2_with fail
                  refine HSL.out.mono ?_
                  rintro e w8 ⟨rfl, rfl⟩
                  go_wp2_with fail
                  refine HLL.out.mono ?_
                  rintro e w8 ⟨rfl, rfl⟩
                  go_wp2_with fail
                  go_loopw [111] (fun i wz => ∃ q : Nat, q ≤ 0 ∧ i = .int .i64 (q : Int) ∧ Hid (Below w7.heap.size w7 wz)) (fun i _ => 0 - (intOf i).toNat)
                  case atStart => exact ⟨0, Nat.zero_le _, rfl, Lib.hid (Below.refl _ _)⟩
                  case round =>
                    obtain ⟨q, hq, rfl, HBZ⟩ := hrel
                    have hqe : q = 0 := by omega
                    subst hqe
                    go_wp2_with fail
                    go_roundw
                    case rel =>
                      have hb6 := HB7.out.trans (HBZ.out.mono HB7.out.size)
                      refine ⟨j + 1, D2, L2, by omega, by go_num, Lib.hid ((HK2.out.grow hb6).less (fun b hb => .inl hb)), Lib.hid ?_, HVB2, HH2, Lib.hid (HF2.out.mono (by omega)), by rw [HNN.out]; omega⟩
                      exact HV2.out.kept (fun b hb => by obtain ⟨cur, hcur⟩ := HV2.out.type b hb; exact hb6.block b (Array.getElem?_eq_some_iff.1 hcur).1)
                    case measure => simp [intOf]; omega
                | some ad =>
                  clear hcz
                  go_wp2_with fail
                  obtain ⟨va2, hva2⟩ : ∃ v, Value.slice (some ad) kq kq = v := ⟨_, rfl⟩
                  rw [hva2] at HK2 HV2 HVB2
                  obtain ⟨G, hLG⟩ := HK2.out.log
                  have htx := texts_any _ n w.heap.size 0 L2 G hLG (by omega)
                  unfold ptr at htx
                  clear hLG
                  have HNN := Lib.hid hN
                  rw [hN] at htx hL2j
                  clear hN
                  go_wp2_with fail
                  refine htx.mono ?_
                  clear htx
                  rintro e w7 ⟨got, rfl, hown, hb7⟩
                  have HLV := Lib.hid (HK2.out.live.below hb7)
                  have hrg := Reads.own hown
                  obtain ⟨ga, gc, rfl⟩ := hrg.shape
                  have hra : Reads w7 va2 L2.rs.length (recCells L2.rs) := (HV2.out.kept (fun b hb => by obtain ⟨cur, hcur⟩ := HV2.out.type b hb; exact hb7.block b (Array.getElem?_eq_some_iff.1 hcur).1)).reads
                  subst hva2
                  rw [HNN.out] at hra
                  have HRG := Lib.hid hrg
                  have HRA := Lib.hid hra
                  have HB7 := Lib.hid hb7
                  have hsle := HLV.out.sure
                  rw [HNN.out] at hsle
                  clear hown hrg hra hb7
                  have hN9 : kq ≤ 200 := by omega
                  have hsl := lg_sure HLV.out
                  have hll := lg_len HLV.out
                  unfold ptr at hsl hll
                  rw [HNN.out] at hll
                  obtain ⟨su, hsu⟩ : ∃ su, L2.sure = su := ⟨_, rfl⟩
                  rw [hsu] at hsle hsl
                  clear hsu
                  have HSL := Lib.hid hsl
                  have HLL := Lib.hid hll
                  clear hsl hll
                  have hgt : decide (kq < su) = false := by simp; omega
                  have hgt2 : ¬ kq < su := by omega
                  go_wp2_with fail
                  refine HSL.out.mono ?_
                  rintro e w8 ⟨rfl, rfl⟩
                  go_wp2_with fail
                  refine HLL.out.mono ?_
                  rintro e w8 ⟨rfl, rfl⟩
                  go_wp2_with fail
                  go_loopw [111] (fun i wz => ∃ q : Nat, q ≤ kq ∧ i = .int .i64 (q : Int) ∧ Hid (Below w7.heap.size w7 wz)) (fun i _ => kq - (intOf i).toNat)
                  case atStart => exact ⟨0, Nat.zero_le _, rfl, Lib.hid (Below.refl _ _)⟩
                  case round =>
                    obtain ⟨q, hq, rfl, HBZ⟩ := hrel
                    by_cases hlt2 : q < kq
                    · obtain ⟨r, hr⟩ : ∃ r, L2.rs[q]? = some r := ⟨L2.rs[q]'(by rw [HNN.out]; omega), by simp⟩
                      have hqk : (q : Int) < (kq : Int) := by omega
                      have hrg := HRG.out
                      have hra := HRA.out
                      rw [← HNN.out] at hrg hra
                      obtain ⟨gb, go, hge, hgl, g0, g1, g2, g3⟩ := reads_rec hrg q r hr
                      obtain ⟨ab, ao, hae, hal, a0, a1, a2, a3⟩ := reads_rec hra q r hr
                      have gz : ∀ j v, w7.cell? ⟨gb, j, none⟩ = some v → wr.cell? ⟨gb, j, none⟩ = some v := fun j v h => (World.cell?_of_block (HBZ.out.block gb hgl)).trans h
                      have az : ∀ j v, w7.cell? ⟨ab, j, none⟩ = some v → wr.cell? ⟨ab, j, none⟩ = some v := fun j v h => (World.cell?_of_block (HBZ.out.block ab hal)).trans h
                      have g0 := gz _ _ g0
                      have g1 := gz _ _ g1
                      have g2 := gz _ _ g2
                      have g3 := gz _ _ g3
                      have a0 := az _ _ a0
                      have a1 := az _ _ a1
                      have a2 := az _ _ a2
                      have a3 := az _ _ a3
                      cases hge; cases hae
                      clear hrg hra gz az hr
                      obtain ⟨rk, rt⟩ := r
                      simp only at g0 g1 a0 a1
                      go_wp2_with fail
                      go_quiet (fail)
                      go_wp2_with fail
                      go_roundw
                      case rel => exact ⟨q + 1, by omega, by go_num, Lib.hid (bel_trans HBZ.out (bel_drewN _ _))⟩
                      case measure => simp [intOf]; omega
                    · have hqe : q = kq := by omega
                      subst hqe
                      have hqq : ¬ (q : Int) < (q : Int) := by omega
                      clear hlt2
                      go_wp2_with fail
                      go_roundw
                      case rel =>
                        have hb6 := HB7.out.trans (HBZ.out.mono HB7.out.size)
                        refine ⟨j + 1, D2, L2, by omega, by go_num, Lib.hid ((HK2.out.grow hb6).less (fun b hb => .inl hb)), Lib.hid ?_, HVB2, HH2, Lib.hid (HF2.out.mono (by omega)), by rw [HNN.out]; omega⟩
                        exact HV2.out.kept (fun b hb => by obtain ⟨cur, hcur⟩ := HV2.out.type b hb; exact hb6.block b (Array.getElem?_eq_some_iff.1 hcur).1)
                      case measure => simp [intOf]; omega
              · have hc := Lg.cut_range (D := D1) (f := 0) (L := L1) q (by rw [HN1.out]; exact hqr)
                rw [hc] at hcu hcutF
                have hqb : (decide ((0 : Int) ≤ q) && decide (q ≤ (N1 : Int))) = false := by
                  rw [Bool.and_eq_false_iff]
                  simp only [decide_eq_false_iff_not]
                  omega
                have HCU := Lib.hid hcu
                have HF2 := Lib.hid hcutF
                clear hcu hcutF hc
                by_cases hq0 : 0 ≤ q
                · have hq1 : decide ((0 : Int) ≤ q) = true := by simpa using hq0
                  have hq2 : decide (q ≤ (N1 : Int)) = false := by simp; omega
                  have hq3 : ¬ q ≤ (N1 : Int) := by omega
                  clear hqb hqr
                  go_wp2_with fail
                  refine HCU.out.mono ?_
                  rintro e w6 ⟨rfl, h6, hk6⟩
                  have HK2 := Lib.hid (h6.less (K' := fun b => (Value.slice va1' N1 vc1).ownBlock = some b) (fun b hb => .inl (by rw [HN1.out]; exact hb)))
                  have hV2 : recT (.slice va1' N1 vc1) L1.rs w6 := by
                    have h1 := HV1.out
                    unfold recT at h1 ⊢
                    have h2 := h1.kept (w' := w6) (fun b hb => hk6 b (.inl hb))
                    rw [HN1.out] at h2 ⊢
                    exact h2
                  have HV2 := Lib.hid hV2
                  have HVB2 : Hid (∀ b, (Value.slice va1' N1 vc1).ownBlock = some b → w.heap.size ≤ b) := Lib.hid (fun b hb => HVB1.out b (by rw [HN1.out]; exact hb))
                  have hN : L1.rs.length = N1 := HN1.out
                  have hL2j : L1.rs.length ≤ j + 1 := by rw [hN]; omega
                  clear h6 hk6 hV2
                  go_wp2_with fail
                  obtain ⟨va2, hva2⟩ : ∃ v, Value.slice va1' N1 vc1 = v := ⟨_, rfl⟩
                  rw [hva2] at HK2 HV2 HVB2
                  obtain ⟨G, hLG⟩ := HK2.out.log
                  have htx := texts_any _ n w.heap.size 0 L1 G hLG (by omega)
                  unfold ptr at htx
                  clear hLG
                  have HNN := Lib.hid hN
                  rw [hN] at htx hL2j
                  clear hN
                  go_wp2_with fail
                  refine htx.mono ?_
                  clear htx
                  rintro e w7 ⟨got, rfl, hown, hb7⟩
                  have HLV := Lib.hid (HK2.out.live.below hb7)
                  have hrg := Reads.own hown
                  obtain ⟨ga, gc, rfl⟩ := hrg.shape
                  have hra : Reads w7 va2 L1.rs.length (recCells L1.rs) := (HV2.out.kept (fun b hb => by obtain ⟨cur, hcur⟩ := HV2.out.type b hb; exact hb7.block b (Array.getElem?_eq_some_iff.1 hcur).1)).reads
                  subst hva2
                  rw [HNN.out] at hra
                  have HRG := Lib.hid hrg
                  have HRA := Lib.hid hra
                  have HB7 := Lib.hid hb7
                  have hsle := HLV.out.sure
                  rw [HNN.out] at hsle
                  clear hown hrg hra hb7
                  have hN9 : N1 ≤ 200 := by omega
                  have hsl := lg_sure HLV.out
                  have hll := lg_len HLV.out
                  unfold ptr at hsl hll
                  rw [HNN.out] at hll
                  obtain ⟨su, hsu⟩ : ∃ su, L1.sure = su := ⟨_, rfl⟩
                  rw [hsu] at hsle hsl
                  clear hsu
                  have HSL := Lib.hid hsl
                  have HLL := Lib.hid hll
                  clear hsl hll
                  have hgt : decide (N1 < su) = false := by simp; omega
                  have hgt2 : ¬ N1 < su := by omega
                  go_wp2_with fail
                  refine HSL.out.mono ?_
                  rintro e w8 ⟨rfl, rfl⟩
                  go_wp2_with fail
                  refine HLL.out.mono ?_
                  rintro e w8 ⟨rfl, rfl⟩
                  go_wp2_with fail
                  go_loopw [111] (fun i wz => ∃ q : Nat, q ≤ N1 ∧ i = .int .i64 (q : Int) ∧ Hid (Below w7.heap.size w7 wz)) (fun i _ => N1 - (intOf i).toNat)
                  case atStart => exact ⟨0, Nat.zero_le _, rfl, Lib.hid (Below.refl _ _)⟩
                  case round =>
                    obtain ⟨q, hq, rfl, HBZ⟩ := hrel
                    by_cases hlt2 : q < N1
                    · obtain ⟨r, hr⟩ : ∃ r, L1.rs[q]? = some r := ⟨L1.rs[q]'(by rw [HNN.out]; omega), by simp⟩
                      have hqk : (q : Int) < (N1 : Int) := by omega
                      have hrg := HRG.out
                      have hra := HRA.out
                      rw [← HNN.out] at hrg hra
                      obtain ⟨gb, go, hge, hgl, g0, g1, g2, g3⟩ := reads_rec hrg q r hr
                      obtain ⟨ab, ao, hae, hal, a0, a1, a2, a3⟩ := reads_rec hra q r hr
                      have gz : ∀ j v, w7.cell? ⟨gb, j, none⟩ = some v → wr.cell? ⟨gb, j, none⟩ = some v := fun j v h => (World.cell?_of_block (HBZ.out.block gb hgl)).trans h
                      have az : ∀ j v, w7.cell? ⟨ab, j, none⟩ = some v → wr.cell? ⟨ab, j, none⟩ = some v := fun j v h => (World.cell?_of_block (HBZ.out.block ab hal)).trans h
                      have g0 := gz _ _ g0
                      have g1 := gz _ _ g1
                      have g2 := gz _ _ g2
                      have g3 := gz _ _ g3
                      have a0 := az _ _ a0
                      have a1 := az _ _ a1
                      have a2 := az _ _ a2
                      have a3 := az _ _ a3
                      cases hge; cases hae
                      clear hrg hra gz az hr
                      obtain ⟨rk, rt⟩ := r
                      simp only at g0 g1 a0 a1
                      go_wp2_with fail
                      go_quiet (fail)
                      go_wp2_with fail
                      go_roundw
                      case rel => exact ⟨q + 1, by omega, by go_num, Lib.hid (bel_trans HBZ.out (bel_drewN _ _))⟩
                      case measure => simp [intOf]; omega
                    · have hqe : q = N1 := by omega
                      subst hqe
                      have hqq : ¬ (q : Int) < (q : Int) := by omega
                      clear hlt2
                      go_wp2_with fail
                      go_roundw
                      case rel =>
                        have hb6 := HB7.out.trans (HBZ.out.mono HB7.out.size)
                        refine ⟨j + 1, D1, L1, by omega, by go_num, Lib.hid ((HK2.out.grow hb6).less (fun b hb => .inl hb)), Lib.hid ?_, HVB2, HH1, Lib.hid (HF2.out.mono (by omega)), by rw [HNN.out]; omega⟩
                        exact HV2.out.kept (fun b hb => by obtain ⟨cur, hcur⟩ := HV2.out.type b hb; exact hb6.block b (Array.getElem?_eq_some_iff.1 hcur).1)
                      case measure => simp [intOf]; omega
                · have hq1 : decide ((0 : Int) ≤ q) = false := by simpa using hq0
                  clear hqb hqr
                  go_wp2_with fail
                  refine HCU.out.mono ?_
                  rintro e w6 ⟨rfl, h6, hk6⟩
                  have HK2 := Lib.hid (h6.less (K' := fun b => (Value.slice va1' N1 vc1).ownBlock = some b) (fun b hb => .inl (by rw [HN1.out]; exact hb)))
                  have hV2 : recT (.slice va1' N1 vc1) L1.rs w6 := by
                    have h1 := HV1.out
                    unfold recT at h1 ⊢
                    have h2 := h1.kept (w' := w6) (fun b hb => hk6 b (.inl hb))
                    rw [HN1.out] at h2 ⊢
                    exact h2
                  have HV2 := Lib.hid hV2
                  have HVB2 : Hid (∀ b, (Value.slice va1' N1 vc1).ownBlock = some b → w.heap.size ≤ b) := Lib.hid (fun b hb => HVB1.out b (by rw [HN1.out]; exact hb))
                  have hN : L1.rs.length = N1 := HN1.out
                  have hL2j : L1.rs.length ≤ j + 1 := by rw [hN]; omega
                  clear h6 hk6 hV2
                  go_wp2_with fail
                  obtain ⟨va2, hva2⟩ : ∃ v, Value.slice va1' N1 vc1 = v := ⟨_, rfl⟩
                  rw [hva2] at HK2 HV2 HVB2
                  obtain ⟨G, hLG⟩ := HK2.out.log
                  have htx := texts_any _ n w.heap.size 0 L1 G hLG (by omega)
                  unfold ptr at htx
                  clear hLG
                  have HNN := Lib.hid hN
                  rw [hN] at htx hL2j
                  clear hN
                  go_wp2_with fail
                  refine htx.mono ?_
                  clear htx
                  rintro e w7 ⟨got, rfl, hown, hb7⟩
                  have HLV := Lib.hid (HK2.out.live.below hb7)
                  have hrg := Reads.own hown
                  obtain ⟨ga, gc, rfl⟩ := hrg.shape
                  have hra : Reads w7 va2 L1.rs.length (recCells L1.rs) := (HV2.out.kept (fun b hb => by obtain ⟨cur, hcur⟩ := HV2.out.type b hb; exact hb7.block b (Array.getElem?_eq_some_iff.1 hcur).1)).reads
                  subst hva2
                  rw [HNN.out] at hra
                  have HRG := Lib.hid hrg
                  have HRA := Lib.hid hra
                  have HB7 := Lib.hid hb7
                  have hsle := HLV.out.sure
                  rw [HNN.out] at hsle
                  clear hown hrg hra hb7
                  have hN9 : N1 ≤ 200 := by omega
                  have hsl := lg_sure HLV.out
                  have hll := lg_len HLV.out
                  unfold ptr at hsl hll
                  rw [HNN.out] at hll
                  obtain ⟨su, hsu⟩ : ∃ su, L1.sure = su := ⟨_, rfl⟩
                  rw [hsu] at hsle hsl
                  clear hsu
                  have HSL := Lib.hid hsl
                  have HLL := Lib.hid hll
                  clear hsl hll
                  have hgt : decide (N1 < su) = false := by simp; omega
                  have hgt2 : ¬ N1 < su := by omega
                  go_wp2_with fail
                  refine HSL.out.mono ?_
                  rintro e w8 ⟨rfl, rfl⟩
                  go_wp2_with fail
                  refine HLL.out.mono ?_
                  rintro e w8 ⟨rfl, rfl⟩
                  go_wp2_with fail
                  go_loopw [111] (fun i wz => ∃ q : Nat, q ≤ N1 ∧ i = .int .i64 (q : Int) ∧ Hid (Below w7.heap.size w7 wz)) (fun i _ => N1 - (intOf i).toNat)
                  case atStart => exact ⟨0, Nat.zero_le _, rfl, Lib.hid (Below.refl _ _)⟩
                  case round =>
                    obtain ⟨q, hq, rfl, HBZ⟩ := hrel
                    by_cases hlt2 : q < N1
                    · obtain ⟨r, hr⟩ : ∃ r, L1.rs[q]? = some r := ⟨L1.rs[q]'(by rw [HNN.out]; omega), by simp⟩
                      have hqk : (q : Int) < (N1 : Int) := by omega
                      have hrg := HRG.out
                      have hra := HRA.out
                      rw [← HNN.out] at hrg hra
                      obtain ⟨gb, go, hge, hgl, g0, g1, g2, g3⟩ := reads_rec hrg q r hr
                      obtain ⟨ab, ao, hae, hal, a0, a1, a2, a3⟩ := reads_rec hra q r hr
                      have gz : ∀ j v, w7.cell? ⟨gb, j, none⟩ = some v → wr.cell? ⟨gb, j, none⟩ = some v := fun j v h => (World.cell?_of_block (HBZ.out.block gb hgl)).trans h
                      have az : ∀ j v, w7.cell? ⟨ab, j, none⟩ = some v → wr.cell? ⟨ab, j, none⟩ = some v := fun j v h => (World.cell?_of_block (HBZ.out.block ab hal)).trans h
                      have g0 := gz _ _ g0
                      have g1 := gz _ _ g1
                      have g2 := gz _ _ g2
                      have g3 := gz _ _ g3
                      have a0 := az _ _ a0
                      have a1 := az _ _ a1
                      have a2 := az _ _ a2
                      have a3 := az _ _ a3
                      cases hge; cases hae
                      clear hrg hra gz az hr
                      obtain ⟨rk, rt⟩ := r
                      simp only at g0 g1 a0 a1
                      go_wp2_with fail
                      go_quiet (fail)
                      go_wp2_with fail
                      go_roundw
                      case rel => exact ⟨q + 1, by omega, by go_num, Lib.hid (bel_trans HBZ.out (bel_drewN _ _))⟩
                      case measure => simp [intOf]; omega
                    · have hqe : q = N1 := by omega
                      subst hqe
                      have hqq : ¬ (q : Int) < (q : Int) := by omega
                      clear hlt2
                      go_wp2_with fail
                      go_roundw
                      case rel =>
                        have hb6 := HB7.out.trans (HBZ.out.mono HB7.out.size)
                        refine ⟨j + 1, D1, L1, by omega, by go_num, Lib.hid ((HK2.out.grow hb6).less (fun b hb => .inl hb)), Lib.hid ?_, HVB2, HH1, Lib.hid (HF2.out.mono (by omega)), by rw [HNN.out]; omega⟩
                        exact HV2.out.kept (fun b hb => by obtain ⟨cur, hcur⟩ := HV2.out.type b hb; exact hb6.block b (Array.getElem?_eq_some_iff.1 hcur).1)
                      case measure => simp [intOf]; omega
      · have hje : j = m := by omega
        subst hje
        have hjj : ¬ (j : Int) < (j : Int) := by omega
        clear hlt
        go_wp2_with fail
        refine (lworks_any _).mono ?_
        rintro e w5 ⟨rfl, hb⟩
        have H := Lib.hid (HS.out.live.below hb)
        clear hb
        go_wp2_with fail
        go_ret
        exact ⟨rfl, H.out.bel⟩

end Go.Proofs.Ytdkhidajmhmjpaa
