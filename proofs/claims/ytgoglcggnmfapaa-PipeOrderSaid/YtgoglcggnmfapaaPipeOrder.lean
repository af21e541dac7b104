/-
  The walk through the statement PipeOrder.
-/
import Derived.Test.YtgoglcggnmfapaaPipeOrd
import Derived.Test.YtgoglcggnmfapaaBytesNums
namespace Go.Proofs.Ytgoglcggnmfapaa
open Go.RowKit Go.Conc

def lenOf : Value → Nat
  | .slice _ n _ => n
  | _ => 0

set_option maxHeartbeats 8000000 in
set_option maxRecDepth 100000 in
theorem order_main (n : Nat) (sv : Value) (ops : List (Int × Int × Int × Value)) (w : World) (h1 : 1 ≤ n) (h8 : n ≤ 8) (hr : Reads w sv ops.length (opCells ops)) (hsh : ∀ o ∈ ops, ∃ a k c, o.2.2.2 = .slice a k c) (hl : ops.length ≤ 300) :
    Calls Try.prog 4 #[.int .i64 (n : Int), sv] w fun e w' => e = .returned (.bool true) ∧ Below w.heap.size w w' := by
  obtain ⟨i0, hi0, hz0, hz1, hz2⟩ := info_parts infoI64
  have HR := Lib.hid hr
  have HSH := Lib.hid hsh
  obtain ⟨sa, sc, rfl⟩ := hr.shape
  clear hr hsh
  have hd : decide ((300 : Int) < (ops.length : Int)) = false := by simp; omega
  go_enter Try.func4, Try.ntmps4
  go_wp2_with fail
  refine (new_ex (n : Int) n _ rfl h1 h8).mono ?_
  rintro e w1 ⟨pb, cb, rfl, hb1, hp1, hp2, hP1⟩
  have hlt := hP1.lt
  have hord : Ord w w1 w1.heap.size pb cb n (.slice none 0 0) (.slice none 0 0) [] [] [] := ⟨hb1, hP1, World.ownsRow_nil _ _ _ _, World.ownsRow_nil _ _ _ _, .inl rfl, rfl, hlt.1, hlt.2.1, hb1.size, hp1, hp2, Nat.le_refl _⟩
  have HORD := Lib.hid hord
  clear hP1 hlt hord hb1
  go_wp2_with fail
  go_loopw [7, 8, 29] (fun iv ov i wr => ∃ (k : Nat) (ins outs rs : List Int), k ≤ ops.length ∧ i = .int .i64 (k : Int) ∧ ins.length ≤ k ∧ Ord w wr w1.heap.size pb cb n iv ov ins outs rs) (fun _ _ i _ => ops.length - (intOf i).toNat)
  case atStart => exact ⟨0, [], [], [], Nat.zero_le _, rfl, Nat.le_refl _, HORD.out⟩
  case round =>
    obtain ⟨k, ins, outs, rs, hk, rfl, hik, hord⟩ := hrel
    obtain ⟨ia, ic, rfl⟩ := (Reads.own hord.own1).shape
    obtain ⟨oa, oc, rfl⟩ := (Reads.own hord.own2).shape
    have HO := Lib.hid hord
    have hlen := hord.len.1
    have heq := hord.eq
    have hle : ins.length = outs.length + rs.length := by rw [heq, List.length_append]
    clear hord
    by_cases hlt : k < ops.length
    · obtain ⟨o, ho⟩ : ∃ o, ops[k]? = some o := ⟨ops[k], by simp [hlt]⟩
      obtain ⟨b, off, rfl, hbl, g0, g1, g2, g3⟩ := reads4 (HR.out.below HO.out.below) k o ho
      obtain ⟨la, ln, lc, hlv⟩ := HSH.out o (List.mem_of_getElem? ho)
      obtain ⟨kind, seq, bar, lv⟩ := o
      simp only at g0 g1 g2 g3 hlv
      subst hlv
      have hi1 : (k : Int) < (ops.length : Int) := by omega
      clear ho
      have HE := Lib.hid heq
      have HLE := Lib.hid hle
      clear heq hle
      have hrange : rs.length ≤ n := hlen
      by_cases hk0 : kind = 0
      · subst hk0
        by_cases hfull : rs.length < n
        · go_wp2_with fail
          refine (put_ord k _ pb cb n rs (HO.out.bel (bel_alloc _ _)).pipe hfull).mono ?_
          rintro e w3 ⟨rfl, ho3, hP3⟩
          have hord3 := (HO.out.bel (bel_alloc wr (.cells #[.int .i64 0, .int .i64 seq, .int .i64 bar, .slice la ln lc] 35))).only ho3
          have hk3 := ho3.block wr.heap.size (by simp) (by have := HO.out.pN; have := HO.out.cN; have := HO.out.NW; omega)
          have hbx := hk3.trans (heap_alloc_new wr _)
          have x0 := cells_at hbx 0 _ rfl
          have hx3 : wr.heap.size < w3.heap.size := (Array.getElem?_eq_some_iff.1 hbx).1
          simp only [List.getElem_toArray, List.getElem_cons_zero] at x0
          have HO3 := Lib.hid hord3
          have HP3 := Lib.hid hP3
          have HBX3 := Lib.hid hbx
          clear ho3 hP3 hord3 hk3 hbx
          go_wp2_with (at_builtin; refine wpList_append_lies _ rfl _ _ 45 rfl w1.heap.size 2 i0 (.int .i64 0) 1 8 Try.underlying45 hi0 hz0 hz1 hz2 rfl (by decide) _ _ _ rfl (HO3.out.2.1.alloc _) ⟨w3.heap.size, 0, none⟩ 1 1 [.int .i64 k] rfl rfl ?c1 ?c2 (by decide) ?c3 ?c4 ?c5 _ rfl ?_)
          case c1 => exact cell_one_new _ _ _
          case c2 => simp [Value.oneCell']
          case c3 => unfold maxLen; omega
          case c4 => omega
          case c5 => have := HO3.out.2.2.2; simp; omega
          intro gg cap w4 hown4 hgrow hat hltg
          have hside := grow_side HO3.out.1 HP3.out HO3.out.2.1 HO3.out.2.2.1 HO.out.ne HO.out.N0 HO.out.pN HO.out.cN HO3.out.2.2.2 (bel_alloc _ _) hgrow (hat.imp id (fun h => by rw [h]; simp))
          have hbx4 : w4.heap[wr.heap.size]? = some (.cells #[.int .i64 0, .int .i64 seq, .int .i64 bar, .slice la ln lc] 35) := by
            rw [hgrow.block _ (by simp; omega) (fun e => by have := (HO.out.own1.lt _ e.symm).2; omega), (bel_alloc w3 _).block _ hx3]
            exact HBX3.out
          obtain ⟨ins', hins⟩ : ∃ l, ins ++ [(k : Int)] = l := ⟨_, rfl⟩
          obtain ⟨rs', hrs⟩ : ∃ l, rs ++ [(k : Int)] = l := ⟨_, rfl⟩
          have hil : ins'.length = ins.length + 1 := by rw [← hins]; simp
          have hrl : rs'.length = rs.length + 1 := by rw [← hrs]; simp
          have hN : Ord w w4 w1.heap.size pb cb n (.slice (some ⟨gg, 0, none⟩) ins'.length cap) (.slice oa outs.length oc) ins' outs rs' :=
            ⟨hside.1, by rw [← hrs]; exact hside.2.1, by rw [hil, ← hins, ints_append]; exact hown4, hside.2.2.1, .inr (.inr hside.2.2.2.1), by rw [← hins, ← hrs, HE.out, List.append_assoc], HO.out.pN, HO.out.cN, HO.out.N0, HO.out.p0, HO.out.c0, hside.2.2.2.2⟩
          have hlen' := hN.len.1
          have e1 : IntKind.i64.wrap ((ins'.length : Int) - (outs.length : Int)) = (rs'.length : Int) := by
            have := HLE.out
            rw [IntWalk.i64_in _ (by omega)]; omega
          have e2 : decide ((n : Int) < (rs'.length : Int)) = false := by simp; omega
          have x0 := cells_at hbx4 0 _ rfl
          simp only [List.getElem_toArray, List.getElem_cons_zero] at x0
          have HN := Lib.hid hN
          rw [← hil]
          have HIL := Lib.hid hil
          clear hside hown4 hgrow hat hbx4 hins hrs hN hil hrl
          go_wp2_with fail
          refine (len_ord _ pb cb n rs' HN.out.pipe).mono ?_
          rintro e w5 ⟨rfl, rfl⟩
          go_wp2_with fail
          refine (len_ord _ pb cb n rs' HN.out.pipe).mono ?_
          rintro e w5 ⟨rfl, rfl⟩
          go_wp2_with fail
          go_roundw
          case rel => exact ⟨k + 1, ins', outs, rs', by omega, by go_num, by have := HIL.out; omega, HN.out⟩
          case measure => simp [intOf]; omega
        · go_wp2_with fail
          refine (put_ordf k _ pb cb n rs (HO.out.bel (bel_alloc _ _)).pipe (by omega)).mono ?_
          rintro e w3 ⟨rfl, hb3⟩
          have hbx := (hb3.block wr.heap.size (by simp)).trans (heap_alloc_new wr _)
          have x0 := cells_at hbx 0 _ rfl
          simp only [List.getElem_toArray, List.getElem_cons_zero] at x0
          have HN := Lib.hid (HO.out.bel (bel_trans (bel_alloc wr (.cells #[.int .i64 0, .int .i64 seq, .int .i64 bar, .slice la ln lc] 35)) hb3))
          clear hb3 hbx
          have e1 : IntKind.i64.wrap ((ins.length : Int) - (outs.length : Int)) = (rs.length : Int) := by
            have := HLE.out
            rw [IntWalk.i64_in _ (by omega)]; omega
          have e2 : decide ((n : Int) < (rs.length : Int)) = false := by simp; omega
          go_wp2_with fail
          refine (len_ord _ pb cb n rs HN.out.pipe).mono ?_
          rintro e w5 ⟨rfl, rfl⟩
          go_wp2_with fail
          refine (len_ord _ pb cb n rs HN.out.pipe).mono ?_
          rintro e w5 ⟨rfl, rfl⟩
          go_wp2_with fail
          go_roundw
          case rel => exact ⟨k + 1, ins, outs, rs, by omega, by go_num, by omega, HN.out⟩
          case measure => simp [intOf]; omega
      · have hk0b : (kind == 0) = false := by simpa using hk0
        by_cases hk2 : kind = 2
        · subst hk2
          clear hk0 hk0b
          cases rs with
          | nil =>
            go_wp2_with fail
            refine (take_ord0 _ pb cb n (HO.out.bel (bel_alloc _ _)).pipe).mono ?_
            rintro e w3 ⟨rfl, hb3⟩
            have HN := Lib.hid (HO.out.bel (bel_trans (bel_trans (bel_alloc wr (.cells #[.int .i64 2, .int .i64 seq, .int .i64 bar, .slice la ln lc] 35)) hb3) (bel_alloc w3 (.cells #[.int .i64 0, .int .i64 0, .slice none 0 0] 33))))
            clear hb3
            have e1 : IntKind.i64.wrap ((ins.length : Int) - (outs.length : Int)) = (([] : List Int).length : Int) := by
              have := HLE.out
              rw [IntWalk.i64_in _ (by omega)]; omega
            have e2 : decide ((n : Int) < (([] : List Int).length : Int)) = false := by simp
            go_wp2_with fail
            refine (len_ord _ pb cb n ([] : List Int) HN.out.pipe).mono ?_
            rintro e w5 ⟨rfl, rfl⟩
            go_wp2_with fail
            refine (len_ord _ pb cb n ([] : List Int) HN.out.pipe).mono ?_
            rintro e w5 ⟨rfl, rfl⟩
            go_wp2_with fail
            go_roundw
            case rel => exact ⟨k + 1, ins, outs, ([] : List Int), by omega, by go_num, by omega, HN.out⟩
            case measure => simp [intOf]; omega
          | cons r rest =>
            go_wp2_with fail
            refine (take_ord _ pb cb n r rest (HO.out.bel (bel_alloc _ _)).pipe).mono ?_
            rintro e w3 ⟨rfl, ho3, hP3⟩
            have hord3 := (HO.out.bel (bel_alloc wr (.cells #[.int .i64 2, .int .i64 seq, .int .i64 bar, .slice la ln lc] 35))).only ho3
            have HO3 := Lib.hid hord3
            have HP3 := Lib.hid hP3
            clear ho3 hP3 hord3
            go_wp2_with (at_builtin; refine wpList_append_lies _ rfl _ _ 45 rfl w1.heap.size 2 i0 (.int .i64 0) 1 8 Try.underlying45 hi0 hz0 hz1 hz2 rfl (by decide) _ _ _ rfl ((HO3.out.2.2.1.alloc _).alloc _) ⟨w3.heap.size + 1, 0, none⟩ 1 1 [.int .i64 r] rfl rfl ?c1 ?c2 (by decide) ?c3 ?c4 ?c5 _ rfl ?_)
            case c1 =>
              have hbk : ((w3.alloc (.cells #[.int .i64 r, .int .i64 0, .slice none 0 0] 33)).alloc (.cells #[.int .i64 r] 2)).heap[w3.heap.size + 1]? = some (.cells #[.int .i64 r] 2) := by
                have := heap_alloc_new (w3.alloc (.cells #[.int .i64 r, .int .i64 0, .slice none 0 0] 33)) (.cells #[.int .i64 r] 2)
                simpa using this
              exact World.news_of_block hbk
            case c2 => simp [Value.oneCell']
            case c3 => have := HLE.out; unfold maxLen; omega
            case c4 => have := HLE.out; omega
            case c5 => have := HO3.out.2.2.2; simp; omega
            intro gg cap w4 hown4 hgrow hat hltg
            have hside := grow_side HO3.out.1 HP3.out HO3.out.2.2.1 HO3.out.2.1 (by rcases HO.out.ne with h | h | h; exact .inr (.inl h); exact .inl h; exact .inr (.inr (Ne.symm h))) HO.out.N0 HO.out.pN HO.out.cN HO3.out.2.2.2 (bel_trans (bel_alloc _ _) (bel_alloc _ _)) hgrow (hat.imp id (fun h => by rw [h]; simp))
            obtain ⟨outs', houts⟩ : ∃ l, outs ++ [r] = l := ⟨_, rfl⟩
            have hol : outs'.length = outs.length + 1 := by rw [← houts]; simp
            have hN : Ord w w4 w1.heap.size pb cb n (.slice ia ins.length ic) (.slice (some ⟨gg, 0, none⟩) outs'.length cap) ins outs' rest :=
              ⟨hside.1, hside.2.1, hside.2.2.1, by rw [hol, ← houts, ints_append]; exact hown4, .inr (.inr (Ne.symm hside.2.2.2.1)), by rw [← houts, HE.out, List.append_assoc]; rfl, HO.out.pN, HO.out.cN, HO.out.N0, HO.out.p0, HO.out.c0, hside.2.2.2.2⟩
            have hlen' := hN.len.1
            have e1 : IntKind.i64.wrap ((ins.length : Int) - (outs'.length : Int)) = (rest.length : Int) := by
              have := HLE.out
              simp only [List.length_cons] at this
              rw [IntWalk.i64_in _ (by omega)]; omega
            have e2 : decide ((n : Int) < (rest.length : Int)) = false := by simp; omega
            have HN := Lib.hid hN
            rw [← hol]
            clear hside hown4 hgrow hat houts hN hol
            go_wp2_with fail
            refine (len_ord _ pb cb n rest HN.out.pipe).mono ?_
            rintro e w5 ⟨rfl, rfl⟩
            go_wp2_with fail
            refine (len_ord _ pb cb n rest HN.out.pipe).mono ?_
            rintro e w5 ⟨rfl, rfl⟩
            go_wp2_with fail
            go_roundw
            case rel => exact ⟨k + 1, ins, outs', rest, by omega, by go_num, by omega, HN.out⟩
            case measure => simp [intOf]; omega
        · have hk2b : (kind == 2) = false := by simpa using hk2
          have HN := Lib.hid (HO.out.bel (bel_alloc wr (.cells #[.int .i64 kind, .int .i64 seq, .int .i64 bar, .slice la ln lc] 35)))
          clear hk0 hk2
          have e1 : IntKind.i64.wrap ((ins.length : Int) - (outs.length : Int)) = (rs.length : Int) := by
            have := HLE.out
            rw [IntWalk.i64_in _ (by omega)]; omega
          have e2 : decide ((n : Int) < (rs.length : Int)) = false := by simp; omega
          go_wp2_with fail
          refine (len_ord _ pb cb n rs HN.out.pipe).mono ?_
          rintro e w5 ⟨rfl, rfl⟩
          go_wp2_with fail
          refine (len_ord _ pb cb n rs HN.out.pipe).mono ?_
          rintro e w5 ⟨rfl, rfl⟩
          go_wp2_with fail
          go_roundw
          case rel => exact ⟨k + 1, ins, outs, rs, by omega, by go_num, by omega, HN.out⟩
          case measure => simp [intOf]; omega
    · have HIB := Lib.hid (show ins.length ≤ 300 by omega)
      clear hik heq hle hlen hk
      go_wp2_with fail
      go_loopw [8] (fun ov wr => ∃ (outs2 rs2 : List Int), Ord w wr w1.heap.size pb cb n (.slice ia ins.length ic) ov ins outs2 rs2) (fun ov _ => ins.length - lenOf ov)
      case atStart => exact ⟨outs, rs, HO.out⟩
      case round =>
        obtain ⟨outs2, rs2, hord2⟩ := hrel
        obtain ⟨oa2, oc2, rfl⟩ := (Reads.own hord2.own2).shape
        have HO2 := Lib.hid hord2
        have hle2 : ins.length = outs2.length + rs2.length := by rw [hord2.eq, List.length_append]
        have hlen2 := hord2.len.1
        have HE2 := Lib.hid hord2.eq
        have HLE2 := Lib.hid hle2
        clear hord2 hle2
        cases rs2 with
        | nil =>
          go_wp2_with fail
          refine (len_ord _ pb cb n [] HO2.out.pipe).mono ?_
          rintro e w5 ⟨rfl, rfl⟩
          have hio : ins = outs2 := by rw [HE2.out, List.append_nil]
          have hre := Reads.own HO2.out.own2
          rw [← hio] at hre
          have hlo : outs2.length = ins.length := by rw [hio]
          have HRE := Lib.hid hre
          rw [hlo]
          clear hio hre hlo
          go_wp2_with fail
          refine (eqI_same _ _ ins _ (Reads.own HO2.out.own1) HRE.out).mono ?_
          rintro e w5 ⟨rfl, n5, rfl⟩
          go_wp2_with fail
          refine (pworks_any _).mono ?_
          rintro e w6 ⟨rfl, hb6⟩
          go_wp2_with fail
          go_ret
          exact ⟨rfl, bel_trans HO2.out.below (bel_trans (show Below wr.heap.size wr (wr.drewN n5) from ⟨rfl, rfl, rfl, Nat.le_refl _, fun _ _ => rfl⟩) hb6)⟩
        | cons r rest =>
          have hpos : decide ((0 : Int) < ((r :: rest).length : Int)) = true := by simp
          go_wp2_with fail
          refine (len_ord _ pb cb n (r :: rest) HO2.out.pipe).mono ?_
          rintro e w5 ⟨rfl, rfl⟩
          go_wp2_with fail
          refine (take_ord _ pb cb n r rest HO2.out.pipe).mono ?_
          rintro e w3 ⟨rfl, ho3, hP3⟩
          have hord3 := HO2.out.only ho3
          have HO3 := Lib.hid hord3
          have HP3 := Lib.hid hP3
          clear ho3 hP3 hord3
          go_wp2_with (at_builtin; refine wpList_append_lies _ rfl _ _ 45 rfl w1.heap.size 2 i0 (.int .i64 0) 1 8 Try.underlying45 hi0 hz0 hz1 hz2 rfl (by decide) _ _ _ rfl ((HO3.out.2.2.1.alloc _).alloc _) ⟨w3.heap.size + 1, 0, none⟩ 1 1 [.int .i64 r] rfl rfl ?c1 ?c2 (by decide) ?c3 ?c4 ?c5 _ rfl ?_)
          case c1 =>
            have hbk : ((w3.alloc (.cells #[.int .i64 r, .int .i64 0, .slice none 0 0] 33)).alloc (.cells #[.int .i64 r] 2)).heap[w3.heap.size + 1]? = some (.cells #[.int .i64 r] 2) := by
              have := heap_alloc_new (w3.alloc (.cells #[.int .i64 r, .int .i64 0, .slice none 0 0] 33)) (.cells #[.int .i64 r] 2)
              simpa using this
            exact World.news_of_block hbk
          case c2 => simp [Value.oneCell']
          case c3 => have := HLE2.out; have := HIB.out; unfold maxLen; omega
          case c4 => have := HLE2.out; have := HIB.out; omega
          case c5 => have := HO3.out.2.2.2; simp; omega
          intro gg cap w4 hown4 hgrow hat hltg
          have hside := grow_side HO3.out.1 HP3.out HO3.out.2.2.1 HO3.out.2.1 (by rcases HO2.out.ne with h | h | h; exact .inr (.inl h); exact .inl h; exact .inr (.inr (Ne.symm h))) HO2.out.N0 HO2.out.pN HO2.out.cN HO3.out.2.2.2 (bel_trans (bel_alloc _ _) (bel_alloc _ _)) hgrow (hat.imp id (fun h => by rw [h]; simp))
          obtain ⟨outs', houts⟩ : ∃ l, outs2 ++ [r] = l := ⟨_, rfl⟩
          have hol : outs'.length = outs2.length + 1 := by rw [← houts]; simp
          have hN : Ord w w4 w1.heap.size pb cb n (.slice ia ins.length ic) (.slice (some ⟨gg, 0, none⟩) outs'.length cap) ins outs' rest :=
            ⟨hside.1, hside.2.1, hside.2.2.1, by rw [hol, ← houts, ints_append]; exact hown4, .inr (.inr (Ne.symm hside.2.2.2.1)), by rw [← houts, HE2.out, List.append_assoc]; rfl, HO2.out.pN, HO2.out.cN, HO2.out.N0, HO2.out.p0, HO2.out.c0, hside.2.2.2.2⟩
          have HN := Lib.hid hN
          have HOL := Lib.hid hol
          rw [← hol]
          clear hside hown4 hgrow hat houts hN hol
          go_wp2_with fail
          go_roundw
          case rel => exact ⟨outs', rest, HN.out⟩
          case measure =>
            have := HLE2.out
            have := HOL.out
            simp only [List.length_cons] at *
            simp [lenOf]
            omega

theorem pipeOrder_walk (room : Int) (sv : Value) (ops : List (Int × Int × Int × Value)) (w : World) (hroom : (Lit.int .i64 room).wf = true) (hr : Reads w sv ops.length (opCells ops)) (hsh : ∀ o ∈ ops, ∃ a k c, o.2.2.2 = .slice a k c) :
    Calls Try.prog 4 #[.int .i64 room, sv] w fun e w' => e = .returned (.bool true) ∧ Below w.heap.size w w' := by
  have hlx := hr.lenLe
  unfold maxLen at hlx
  by_cases hl : ops.length ≤ 300
  · by_cases hrm : 1 ≤ room ∧ room ≤ 8
    · obtain ⟨n, rfl⟩ : ∃ n : Nat, room = n := ⟨room.toNat, by omega⟩
      exact order_main n sv ops w (by omega) (by omega) hr hsh hl
    · obtain ⟨sa, sc, rfl⟩ := hr.shape
      have hd : decide ((300 : Int) < (ops.length : Int)) = false := by simp; omega
      clear hr hsh
      go_enter Try.func4, Try.ntmps4
      go_wp2_with fail
      refine (new_bad room _ (by omega)).mono ?_
      rintro e w1 ⟨rfl, rfl⟩
      go_wp2_with fail
      refine (pworks_any _).mono ?_
      rintro e w2 ⟨rfl, hb2⟩
      go_wp2_with fail
      go_ret
      exact ⟨rfl, hb2⟩
  · obtain ⟨sa, sc, rfl⟩ := hr.shape
    have hd : decide ((300 : Int) < (ops.length : Int)) = true := by simp; omega
    clear hr hsh hl
    go_enter Try.func4, Try.ntmps4
    go_wp2_with fail
    refine (pworks_any _).mono ?_
    rintro e w2 ⟨rfl, hb2⟩
    go_wp2_with fail
    go_ret
    exact ⟨rfl, hb2⟩

end Go.Proofs.Ytgoglcggnmfapaa
