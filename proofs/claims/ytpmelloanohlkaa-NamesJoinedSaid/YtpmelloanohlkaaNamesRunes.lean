/-
  The walk through the reference's Runes.
-/
import Derived.Test.YtpmelloanohlkaaNamesWalks
import Derived.Lib.Strings
namespace Go.Proofs.Ytpmelloanohlkaa
open Go.RowKit

theorem own_ne {w : World} {B B' e e' size size' n n' : Nat} {v v' : Value} {xs xs' : List Value} (h : w.ownsRow B e size v n xs) (h' : w.ownsRow B' e' size' v' n' xs') (hne : e ≠ e') : v.ownBlock = none ∨ v.ownBlock ≠ v'.ownBlock := by
  rcases h.2 with ⟨h1, _⟩ | ⟨g, cap, cur, h1, _, h3, _⟩
  · left; rw [h1]; rfl
  · right
    rcases h'.2 with ⟨k1, _⟩ | ⟨g', cap', cur', k1, _, k3, _⟩
    · rw [h1, k1]; simp [Value.ownBlock]
    · rw [h1, k1]
      simp only [Value.ownBlock, ne_eq, Option.some.injEq]
      intro e1
      subst e1
      rw [h3] at k3
      simp only [Option.some.injEq, Obj.cells.injEq] at k3
      exact hne k3.2.1

theorem own_iter {w : World} {B e size n : Nat} {v : Value} {xs : List Value} (h : w.ownsRow B e size v n xs) (k : Nat) (hk : k < B) (s : ByteArray) (pos : Nat) : (w.iterAt k s pos).ownsRow B e size v n xs := by
  have hl := h.lt
  refine h.kept (row := some k) ⟨rfl, rfl, rfl, by rw [Lib.iterAt_size]; exact Nat.le_refl _, fun i _ hi => Lib.iterAt_other w k i s pos (fun e => hi (by rw [e]))⟩ ?_
  cases hv : v.ownBlock with
  | none => exact .inl rfl
  | some g => right; intro e; have e2 := Option.some.inj e; have := (hl g hv).1; omega

theorem iter_alloc {w : World} {k : Nat} {o o' : Obj} (h : w.heap[k]? = some o) : (w.alloc o').heap[k]? = some o := by
  rw [heap_alloc_old w o' (Array.getElem?_eq_some_iff.1 h).1]; exact h

theorem iter_grown {w w' : World} {k : Nat} {o o' : Obj} {B e size n : Nat} {v : Value} {xs : List Value} (h : w.heap[k]? = some o) (hown : w.ownsRow B e size v n xs) (hk : k < B) (hg : (w.alloc o').grownBy w' v.ownBlock) : w'.heap[k]? = some o := by
  rw [hg.block k (by have := (Array.getElem?_eq_some_iff.1 h).1; simp; omega) (fun e => by have := (hown.lt k e.symm).1; omega)]
  exact iter_alloc h

theorem below_pushed2 {w wr w' : World} {B : Nat} {e : TypeId} {size : Nat} {v : Value} {n : Nat} {xs : List Value} (hB : w.heap.size ≤ B) (hb : Below w.heap.size w wr) (hown : wr.ownsRow B e size v n xs) (o : Obj) (hg : (wr.alloc o).grownBy w' v.ownBlock) : Below w.heap.size w w' :=
  (hb.alloc hb.size o).grown hg (by have := hb.size; simp; omega) (fun k hk => Nat.le_trans hB (hown.lt k hk).1)

def runeV (l : List (Nat × Nat)) : List Value := l.map fun x => Value.int .i32 x.2
def ats (l : List (Nat × Nat)) : List Int := l.map fun x => (x.1 : Int)
theorem runeV_snoc (l : List (Nat × Nat)) (a b : Nat) : runeV (l ++ [(a, b)]) = runeV l ++ [.int .i32 b] := by simp [runeV]
theorem ats_snoc (l : List (Nat × Nat)) (a b : Nat) : ints (ats (l ++ [(a, b)])) = ints (ats l) ++ [.int .i64 a] := by simp [ats, ints]

def RunesSays (s : ByteArray) (w : World) (e : Ending) (w' : World) : Prop :=
  ∃ lv av, e = .returned (.tuple #[lv, av]) ∧ Reads w' lv (Cl.runes s).length (runeV (Cl.runes s)) ∧ Reads w' av (Cl.runes s).length (ints (ats (Cl.runes s))) ∧ Below w.heap.size w w'

theorem infoI32 : (Try.prog.info? 21).map (fun i => (i.zero, i.size, i.bytes)) = some (some (.int .i32 0), 1, 4) := by kernel_rfl
theorem infoInt : (Try.prog.info? 3).map (fun i => (i.zero, i.size, i.bytes)) = some (some (.int .i64 0), 1, 8) := by kernel_rfl

set_option maxHeartbeats 1000000 in
theorem runes_any (s : ByteArray) (w : World) (hs : s.size ≤ 1000000) :
    Calls Try.prog 13 #[.string s] w (RunesSays s w) := by
  obtain ⟨i0, hi0, hz0, hz1, hz2⟩ := info_parts infoI32
  obtain ⟨j0, hj0, hy0, hy1, hy2⟩ := info_parts infoInt
  go_enter Try.func13, Try.ntmps13
  go_wp2
  go_loopw [4, 5] (fun lv av wr => ∃ (pre : List (Nat × Nat)) (pos : Nat), wr.heap[w.heap.size]? = some (.stringIter s pos) ∧ Below w.heap.size w wr ∧ Hid (Cl.At s pre pos) ∧ wr.ownsRow (w.heap.size + 1) 21 1 lv pre.length (runeV pre) ∧ wr.ownsRow (w.heap.size + 1) 3 1 av pre.length (ints (ats pre))) (fun _ _ wr => s.size - wr.iterPos w.heap.size)
  case atStart =>
    refine ⟨[], 0, ?_, (Below.refl _ w).alloc (Nat.le_refl _) _, Lib.hid (Cl.At.start s), World.ownsRow_nil _ _ _ _, World.ownsRow_nil _ _ _ _⟩
    have := World.iter_heap w s 0
    simpa using this
  case round =>
    obtain ⟨pre, pos, hit, hbw, HA, hown1, hown2⟩ := hrel
    by_cases hp : pos < s.size
    · have hnx := rune_next wr w.heap.size s pos hit hp
      have hwd := Cl.width_pos s pos hp
      have hln := HA.out.len
      have hit2 := Lib.iterAt_heap wr w.heap.size s pos (pos + (Utf8.decode s pos).2) hit
      have hbw2 := Lib.below_iterAt hbw (k := w.heap.size) (Nat.le_refl _) s (pos + (Utf8.decode s pos).2)
      have ho1 := own_iter hown1 w.heap.size (by omega) s (pos + (Utf8.decode s pos).2)
      have ho2 := own_iter hown2 w.heap.size (by omega) s (pos + (Utf8.decode s pos).2)
      have hpos : wr.iterPos w.heap.size = pos := by simp only [World.iterPos, hit]
      obtain ⟨wi, hwi⟩ : ∃ wi, wr.iterAt w.heap.size s (pos + (Utf8.decode s pos).2) = wi := ⟨_, rfl⟩
      rw [hwi] at hnx hit2 hbw2 ho1 ho2
      have HLN := Lib.hid hln
      have HP := Lib.hid hp
      have HWD := Lib.hid hwd
      have HS := Lib.hid hs
      have HPOS := Lib.hid hpos
      clear hln hp hwd hs hown1 hown2 hit hbw hwi hpos
      go_wp2_with ((at_builtin; refine wpList_append_own _ rfl _ _ 29 rfl (w.heap.size + 1) 21 i0 (.int .i32 0) 1 4 Try.underlying29 hi0 hz0 hz1 hz2 rfl (by decide) _ _ _ rfl (ho1.alloc _) ⟨wi.heap.size, 0, none⟩ 1 1 [.int .i32 (Utf8.decode s pos).1] rfl rfl ?c1 ?c2 ?c3 ?c4 ?c5 ?_))
      case c1 => exact cell_one_new _ _ _
      case c2 => simp [Value.oneCell']
      case c3 => have := HLN.out; have := HS.out; unfold maxLen; omega
      case c4 => have := HLN.out; have := HS.out; omega
      case c5 => have := (Array.getElem?_eq_some_iff.1 hit2).1; simp; omega
      intro v1 w1 hv1 hg1 _
      have hb1 := below_pushed2 (B := w.heap.size + 1) (by omega) hbw2 ho1 _ hg1
      have hi1 := iter_grown hit2 ho1 (by omega) hg1
      have hv2 := (ho2.alloc (.cells #[.int .i32 (Utf8.decode s pos).1] 21)).kept hg1 (own_ne (ho2.alloc _) (ho1.alloc (.cells #[.int .i32 (Utf8.decode s pos).1] 21)) (by decide))
      clear hg1 ho1 ho2 hbw2 hit2 hnx
      go_wp2_with ((at_builtin; refine wpList_append_own _ rfl _ _ 30 rfl (w.heap.size + 1) 3 j0 (.int .i64 0) 1 8 Try.underlying30 hj0 hy0 hy1 hy2 rfl (by decide) _ _ _ rfl (hv2.alloc _) ⟨w1.heap.size, 0, none⟩ 1 1 [.int .i64 pos] rfl rfl ?d1 ?d2 ?d3 ?d4 ?d5 ?_))
      case d1 => exact cell_one_new _ _ _
      case d2 => simp [Value.oneCell']
      case d3 => have := HLN.out; have := HS.out; unfold maxLen; omega
      case d4 => have := HLN.out; have := HS.out; omega
      case d5 => have := (Array.getElem?_eq_some_iff.1 hi1).1; simp; omega
      intro v2 w2 hw2 hg2 _
      have hb2 := below_pushed2 (B := w.heap.size + 1) (by omega) hb1 hv2 _ hg2
      have hi2 := iter_grown hi1 hv2 (by omega) hg2
      have hw1 := (hv1.alloc (.cells #[.int .i64 pos] 3)).kept hg2 (own_ne (hv1.alloc _) (hv2.alloc (.cells #[.int .i64 pos] 3)) (by decide))
      clear hg2 hv1 hv2 hb1 hi1
      go_wp2
      go_roundw
      case rel =>
        refine ⟨pre ++ [(pos, (Utf8.decode s pos).1)], _, hi2, hb2, Lib.hid (HA.out.next HP.out), ?_, ?_⟩
        · rw [List.length_append, runeV_snoc]; exact hw1
        · rw [List.length_append, ats_snoc]; exact hw2
      case measure =>
        rw [HPOS.out]
        simp only [World.iterPos, hi2]
        have := HP.out; have := HWD.out
        omega
    · have hnx := rune_end wr w.heap.size s pos hit hp
      have HD := Lib.hid (HA.out.done hp)
      go_wp2
      go_ret2
      refine ⟨_, _, rfl, ?_, ?_, hbw⟩
      · rw [← HD.out]; exact Reads.own hown1
      · rw [← HD.out]; exact Reads.own hown2

end Go.Proofs.Ytpmelloanohlkaa
