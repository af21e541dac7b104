/-
  The walk through the statement FrameEarly.
-/
import Derived.Test.YthnellehndggpaaFrameWhole
import Derived.Test.YthnellehndggpaaFrameRefT
import Derived.Test.YthnellehndggpaaFrameTakes
import Derived.Test.YthnellehndggpaaArgs
namespace Go.Proofs.Ythnellehndggpaa
open Go.RowKit Go.Shelf
attribute [local go_sem] Oper.semAt_some

/-- Frames of kind 3, one behind the other. -/
def frames3 (l : List ByteArray) : List UInt8 := l.flatMap fun p => Cl.putF 3 p.data.toList
def items3 (l : List ByteArray) : List (Nat × List UInt8) := l.map fun p => (3, p.data.toList)

theorem frames3_snoc (l : List ByteArray) (k : Nat) (p : ByteArray) (h : l[k]? = some p) : frames3 (l.take (k + 1)) = frames3 (l.take k) ++ Cl.putF 3 p.data.toList := by
  unfold frames3
  rw [take_snoc_of l k p h]
  simp

theorem allF_frames (l : List ByteArray) : (∀ p ∈ l, p.size ≤ 1000) → ∀ f, (frames3 l).length ≤ f → (Cl.allF f (frames3 l)).1 = items3 l := by
  induction l with
  | nil =>
    intro _ f _
    cases f with
    | zero => rfl
    | succ f => rfl
  | cons p l ih =>
    intro h f hf
    have hp := h p (by simp)
    have hl := Cl.putF_len 3 p.data.toList
    have e : frames3 (p :: l) = Cl.putF 3 p.data.toList ++ frames3 l := rfl
    rw [e, List.length_append] at hf
    obtain ⟨g, rfl⟩ : ∃ g, f = g + 1 := ⟨f - 1, by omega⟩
    have ht := Cl.takeF_put 3 p.data.toList (frames3 l) (by decide) (by rw [len_data]; omega)
    rw [e]
    conv => lhs; unfold Cl.allF
    rw [ht]
    simp only [ne_eq, not_true, if_false, List.drop_left]
    rw [ih (fun q hq => h q (by simp [hq])) g (by omega)]
    rfl

theorem frames3_len (l : List ByteArray) : (∀ p ∈ l, p.size ≤ 1000) → (frames3 l).length ≤ 1015 * l.length := by
  induction l with
  | nil => intro _; simp [frames3]
  | cons p l ih =>
    intro h
    have hp := h p (by simp)
    have hl := Cl.putF_len 3 p.data.toList
    have hl2 := (Cl.putText_len p.data.toList).2
    rw [len_data] at hl2
    have := ih (fun q hq => h q (by simp [hq]))
    have e : frames3 (p :: l) = Cl.putF 3 p.data.toList ++ frames3 l := rfl
    rw [e, List.length_append, List.length_cons]
    omega

theorem boxes3 (w : World) (t1 t2 t3 : TypeId) (v1 v2 v3 : Value) : ∃ W, (((w.alloc (.cells #[v1] t1)).alloc (.cells #[v2] t2)).alloc (.cells #[v3] t3)) = W ∧ W.heap.size = w.heap.size + 3 ∧
    Boxed W w.heap.size t1 v1 ∧ Boxed W (w.heap.size + 1) t2 v2 ∧ Boxed W (w.heap.size + 1 + 1) t3 v3 ∧ Below w.heap.size w W := by
  refine ⟨_, rfl, by simp, ((Boxed.new w _ _).alloc _).alloc _, ?_, ?_, (((Below.refl _ w).alloc (Nat.le_refl _) _).alloc (by simp) _).alloc (by simp; omega) _⟩
  · have := Boxed.new (w.alloc (.cells #[v1] t1)) t2 v2
    rw [World.size_alloc] at this
    exact this.alloc _
  · have := Boxed.new ((w.alloc (.cells #[v1] t1)).alloc (.cells #[v2] t2)) t3 v3
    rwa [World.size_alloc, World.size_alloc] at this

set_option maxHeartbeats 4000000 in
theorem frameEarly_out (v : Value) (ss : List ByteArray) (many : Int) (w : World) (hr : Reads w v ss.length (strV ss)) (h : 100 < ss.length ∨ many < 1) :
    Calls Try.prog 14 #[v, .int .i64 many] w fun e w' => e = .returned (.bool true) ∧ Below w.heap.size w w' := by
  obtain ⟨a, c, rfl⟩ := hr.shape
  clear hr
  obtain ⟨W, hW, hsz, hl, hm, hb, hB⟩ := boxes3 w 50 3 4 (.slice a ss.length c) (.int .i64 many) (.bool false)
  have hfin : ∀ w2, Below W.heap.size W w2 → Boxed w2 (w.heap.size + 1 + 1) 4 (.bool false) ∧ Below w.heap.size w w2 := fun w2 h2 => ⟨boxed_below hb h2, hB.trans (h2.mono (by omega))⟩
  have HF := Lib.hid hfin
  have HL := Lib.hid hl
  have HM := Lib.hid hm
  have HW := Lib.hid hW
  clear hfin hb hB hl hm hsz hW
  by_cases h1 : 100 < ss.length
  · have hd : decide ((100 : Int) < ss.length) = true := by simp; omega
    clear h h1
    go_enter Try.func14, Try.ntmps14
    go_wp2_with fail
    rw [HW.out]
    refine (fworks_any _).mono ?_
    rintro e w1 ⟨rfl, hb1⟩
    have hc1 := (boxed_below HL.out hb1).cell
    have hb1' := Lib.hid hb1
    clear hb1
    go_wp2_with fail
    refine (fworks_any _).mono ?_
    rintro e w2 ⟨rfl, hb2⟩
    obtain ⟨hx, hbw⟩ := HF.out w2 (bel_trans hb1'.out hb2)
    have hc := hx.cell
    have hf := hx.frozen
    have hc2 := (hx.set (.bool true)).cell
    go_wp2_with fail
    refine bodyPost_ret (v := .bool true) (by simp [results, Try.results14, go_sem, hc2]) rfl ⟨rfl, ?_⟩
    exact hbw.setCell (p := ⟨w.heap.size + 1 + 1, 0, none⟩) (by simp; omega) _
  · have hd : decide ((100 : Int) < ss.length) = false := by simp; omega
    have hd2 : decide (many < 1) = true := by simp; omega
    clear h h1
    go_enter Try.func14, Try.ntmps14
    go_wp2_with fail
    rw [HW.out]
    refine (fworks_any _).mono ?_
    rintro e w1 ⟨rfl, hb1⟩
    have hc1 := (boxed_below HL.out hb1).cell
    have hc1m := (boxed_below HM.out hb1).cell
    have hb1' := Lib.hid hb1
    clear hb1
    go_wp2_with fail
    refine (fworks_any _).mono ?_
    rintro e w2 ⟨rfl, hb2⟩
    obtain ⟨hx, hbw⟩ := HF.out w2 (bel_trans hb1'.out hb2)
    have hc := hx.cell
    have hf := hx.frozen
    have hc2 := (hx.set (.bool true)).cell
    go_wp2_with fail
    refine bodyPost_ret (v := .bool true) (by simp [results, Try.results14, go_sem, hc2]) rfl ⟨rfl, ?_⟩
    exact hbw.setCell (p := ⟨w.heap.size + 1 + 1, 0, none⟩) (by simp; omega) _

theorem puttext_great (p : ByteArray) (w : World) (h : 65536 < p.size) :
    Calls Try.prog 28 #[.string p] w fun e w' => e = .returned (.tuple #[.string ⟨#[]⟩, .int .i64 3]) ∧ w = w' := by
  have hd : decide ((65536 : Int) < p.size) = true := by simp; omega
  go_enter Try.func28, Try.ntmps28
  go_wp2_with fail
  go_ret2
  exact ⟨rfl, rfl⟩

theorem putf_great (p : ByteArray) (w : World) (h : 65536 < p.size) :
    Calls Try.prog 30 #[.int .u8 3, .string p] w fun e w' => e = .returned (.tuple #[.string ⟨#[]⟩, .int .i64 3]) ∧ w = w' := by
  go_enter Try.func30, Try.ntmps30
  go_wp2_with fail
  refine (puttext_great p _ h).mono ?_
  rintro e w' ⟨rfl, rfl⟩
  go_wp2_with fail
  go_ret2
  exact ⟨rfl, rfl⟩

theorem putf_three (p : ByteArray) (w : World) :
    Calls Try.prog 30 #[.int .u8 3, .string p] w fun e w' => ∃ (q : ByteArray) (x : Int), e = .returned (.tuple #[.string q, .int .i64 x]) ∧ (p.size ≤ 1000 → q = ⟨(Cl.putF 3 p.data.toList).toArray⟩ ∧ x = 0) ∧ Below w.heap.size w w' := by
  by_cases h : 65536 < p.size
  · exact (putf_great p w h).mono fun e w' ⟨h1, h2⟩ => ⟨_, _, h1, fun h3 => by omega, by rw [← h2]; exact Below.refl _ _⟩
  · exact (show Calls Try.prog 30 #[.int .u8 3, .string p] _ _ from putf_ok 3 p w (by decide) (by omega)).mono fun e w' ⟨h1, h2⟩ => ⟨_, _, h1, fun _ => ⟨rfl, rfl⟩, h2⟩

theorem strV_cells {w : World} {a : Option Addr} {n c : Nat} {ss : List ByteArray} (h : Reads w (.slice a n c) ss.length (strV ss)) (k : Nat) (p : ByteArray) (hp : ss[k]? = some p) :
    ∃ b o, a = some ⟨b, o, none⟩ ∧ ss.length ≤ c ∧ w.cell? ⟨b, o + k, none⟩ = some (.string p) := by
  have hlt := (List.getElem?_eq_some_iff.1 hp).1
  obtain ⟨b, o, kk, hv, h1, _, _, hc⟩ := h.some (by omega)
  simp only [Value.slice.injEq] at hv
  obtain ⟨h1', _, h3⟩ := hv
  exact ⟨b, o, h1', by omega, hc k _ (by simp [strV, hp])⟩

set_option maxHeartbeats 8000000 in
theorem frameEarly_main (v : Value) (ss : List ByteArray) (many : Int) (w : World) (hr : Reads w v ss.length (strV ss)) (hz : ∀ s ∈ ss, s.size ≤ maxLen) (h1 : ss.length ≤ 100) (h2 : 1 ≤ many) :
    Calls Try.prog 14 #[v, .int .i64 many] w fun e w' => e = .returned (.bool true) ∧ Below w.heap.size w w' := by
  refine (callsIn_wide (n := 3)).1 ?_
  obtain ⟨a, c, rfl⟩ := hr.shape
  obtain ⟨W, hW, hsz, hl, hm, hb, hB⟩ := boxes3 w 50 3 4 (.slice a ss.length c) (.int .i64 many) (.bool false)
  have HR := Lib.hid (hr.kept hB.size (fun b o hb => hB.cell (p := ⟨b, o, none⟩) hb))
  have HL := Lib.hid hl
  have HM := Lib.hid hm
  have HB := Lib.hid hb
  have HBW := Lib.hid hB
  have HW := Lib.hid hW
  have HZ := Lib.hid hz
  have hd : decide ((100 : Int) < ss.length) = false := by simp; omega
  have hd2 : decide (many < 1) = false := by simp; omega
  clear hl hm hb hB hW hr hz
  refine callsIn_of_wp_marks Try.func14 rfl trivial ?_ rfl
  simp only [Try.ntmps14, List.size_toArray, List.length_cons, List.length_nil, Nat.reduceAdd, Nat.reduceSub, Array.replicate_succ, Array.replicate_zero, List.push_toArray, List.append_toArray, List.nil_append, List.cons_append]
  gi_wp2_with fail
  rw [HW.out]
  refine ⟨trivial, (callsIn_wide.2 (fworks_any _)).mono ?_⟩
  rintro e w1 ⟨rfl, hb1⟩
  have hl1 := boxed_below HL.out hb1
  have hm1 := boxed_below HM.out hb1
  have hx1 := boxed_below HB.out hb1
  have hr1 := HR.out.kept hb1.size (fun b o hb => hb1.cell (p := ⟨b, o, none⟩) hb)
  have hbw1 : Below w.heap.size w w1 := HBW.out.trans (hb1.mono (by omega))
  have hs1 : w.heap.size + 3 ≤ w1.heap.size := by have := hb1.size; omega
  have hc1 := hl1.cell
  have hc2 := hm1.cell
  have HL := Lib.hid hl1
  have HM := Lib.hid hm1
  have HX := Lib.hid hx1
  have HBW := Lib.hid hbw1
  clear HB HR HW hb1 hl1 hm1 hx1 hbw1 hsz
  gi_wp2_with fail
  clear hc1 hc2
  gi_loopw [5, 25] (fun t i wr => ∃ k : Nat, k ≤ ss.length ∧ i = .int .i64 k ∧ t = .string ⟨(frames3 (ss.take k)).toArray⟩ ∧ Below w1.heap.size w1 wr ∧ Hid (∀ p ∈ ss.take k, p.size ≤ 1000)) (fun _ i _ => ss.length - (intOf i).toNat)
  case atStart => exact ⟨0, Nat.zero_le _, rfl, rfl, Below.refl _ _, Lib.hid (by simp)⟩
  case round =>
    obtain ⟨k, hk, rfl, rfl, hbw, HP⟩ := hrel
    by_cases hlt : k < ss.length
    · obtain ⟨p, hp⟩ : ∃ p, ss[k]? = some p := ⟨ss[k], by simp [hlt]⟩
      obtain ⟨b, o, rfl, hcap, hcell⟩ := strV_cells (hr1.below hbw) k p hp
      have HPK := Lib.hid hp
      have hpm := HZ.out p (List.mem_of_getElem? hp)
      unfold maxLen at hpm
      clear hp
      have hfl := frames3_len (ss.take k) HP.out
      rw [List.length_take] at hfl
      have hsz := size_mk (frames3 (ss.take k))
      have hfl2 : (frames3 (ss.take k)).length ≤ 200000 := by omega
      clear hfl
      by_cases hps : p.size ≤ 1000
      · have hdp : decide ((1000 : Int) < p.size) = false := by simp; omega
        have hql := Cl.putF_len 3 p.data.toList
        have hql2 := (Cl.putText_len p.data.toList).2
        rw [len_data] at hql2
        have hq1 : (Cl.putF 3 p.data.toList).length ≤ 2000 := by omega
        have hq2 := size_mk (Cl.putF 3 p.data.toList)
        clear hql hql2
        gi_wp2_with fail
        refine ⟨trivial, (callsIn_wide.2 (putf_three p _)).mono ?_⟩
        rintro e w2 ⟨q, x, rfl, hq, hb2⟩
        obtain ⟨rfl, rfl⟩ := hq hps
        clear hq
        gi_wp2_with fail
        refine ⟨⟨k + 1, by omega, by go_num, ?_, bel_trans hbw hb2, Lib.hid ?_⟩, by simp [intOf]; omega⟩
        · rw [mk_append, frames3_snoc ss k p HPK.out]
        · intro q hq
          rw [take_snoc_of ss k p HPK.out, List.mem_append] at hq
          rcases hq with hq | hq
          · exact HP.out q hq
          · simp at hq; subst hq; exact hps
      · have hdp : decide ((1000 : Int) < p.size) = true := by simp; omega
        gi_wp2_with fail
        refine ⟨trivial, (callsIn_wide.2 (putf_three p _)).mono ?_⟩
        rintro e w2 ⟨q, x, rfl, hq, hb2⟩
        clear hq
        gi_wp2_with fail
        refine ⟨trivial, (callsIn_wide.2 (fworks_any _)).mono ?_⟩
        rintro e w3 ⟨rfl, hb3⟩
        have hbb := bel_trans hbw (bel_trans hb2 hb3)
        have hx := boxed_below HX.out hbb
        have hc := hx.cell
        have hf := hx.frozen
        have hc2 := (hx.set (.bool true)).cell
        clear hbw hb2 hb3
        gi_wp2_with fail
        refine ⟨.bool true, by simp [results, Try.results14, go_sem, hc2], rfl, ?_⟩
        exact (bel_trans HBW.out hbb).setCell (p := ⟨w.heap.size + 1 + 1, 0, none⟩) (by simp; omega) _
    · obtain rfl : k = ss.length := by omega
      have htake : ss.take ss.length = ss := List.take_length
      rw [htake] at HP ⊢
      have hfl := frames3_len ss HP.out
      have hgiv := fun (W : World) (hb : Boxed W (wr.heap.size + 1) 9 (.string ⟨(frames3 ss).toArray⟩)) => all_gives ⟨(frames3 ss).toArray⟩ (by rw [size_mk]; omega) (3 - 1) (by decide) (wr.heap.size + 1) W hb
      have hai : (Cl.allF (⟨(frames3 ss).toArray⟩ : ByteArray).size (⟨(frames3 ss).toArray⟩ : ByteArray).data.toList).1 = items3 ss := by
        have := allF_frames ss HP.out (frames3 ss).length (Nat.le_refl _)
        rw [size_mk]; exact this
      rw [hai] at hgiv
      have HGV := Lib.hid hgiv
      obtain ⟨sb, hsb⟩ : ∃ sb : ByteArray, ⟨(frames3 ss).toArray⟩ = sb := ⟨_, rfl⟩
      rw [hsb] at HGV ⊢
      clear hgiv hai hfl hsb htake
      gi_wp2_with fail
      refine ⟨trivial, (callsIn_wide.2 (all_any sb _)).mono ?_⟩
      rintro e w5 ⟨rfl, rfl⟩
      obtain ⟨W0, hW0⟩ : ∃ W0, ((wr.alloc (Obj.cells #[Value.int IntKind.i64 0] 3)).alloc (Obj.cells #[Value.string sb] 9)) = W0 := ⟨_, rfl⟩
      have hsz0 : W0.heap.size = wr.heap.size + 2 := by rw [← hW0]; simp
      have hbn : Boxed W0 wr.heap.size 3 (.int .i64 0) := by rw [← hW0]; exact (Boxed.new wr 3 _).alloc _
      have hbs : Boxed W0 (wr.heap.size + 1) 9 (.string sb) := by rw [← hW0]; have := Boxed.new (wr.alloc (Obj.cells #[Value.int IntKind.i64 0] 3)) 9 (.string sb); rwa [World.size_alloc] at this
      have hbe : Below wr.heap.size wr W0 := by rw [← hW0]; exact ((Below.refl _ wr).alloc (Nat.le_refl _) _).alloc (by simp) _
      have hgv := HGV.out W0 hbs
      rw [hW0]
      clear hW0 HGV hbs
      gi_wp2_with fail
      have hs5 : w.heap.size + 3 ≤ wr.heap.size := by have := hbw.size; omega
      refine over_items' (F := Fence.wide) rfl (by decide) rfl trivial (enters_of Try.func47 (by kernel_rfl) rfl) (by omega) hgv (fun _ => rfl)
        (fun k W => Boxed W wr.heap.size 3 (.int .i64 k) ∧ (Below wr.heap.size wr W ∧ (wr.heap.size + 2 ≤ W.heap.size ∧ (k : Int) < many)))
        (fun c k W => (c = .exit 2 ∧ (k : Int) = many) ∧ (Boxed W wr.heap.size 3 (.int .i64 k) ∧ Below wr.heap.size wr W))
        (fun k => (Stands.block (by omega) (by omega)).and ((Stands.below (by omega) (by omega) (Nat.le_refl _)).and (Stands.size.and (Stands.pure _))))
        (fun c k => (Stands.pure _).and ((Stands.block (by omega) (by omega)).and (Stands.below (by omega) (by omega) (Nat.le_refl _))))
        ⟨hbn, hbe, by omega, by omega⟩ ?hround ?done ?stop
      case hround =>
        apply Exists.intro
        apply And.intro
        · intro l y W K hK
          simp only [frameV]
          gi_wp2
          exact hK
        · rintro l k y W hy ⟨hi, hB, hge, hkm⟩
          obtain ⟨p, hp, hy2⟩ : ∃ p, ss[k]? = some p ∧ (⟨y.2.toArray⟩ : ByteArray) = p := by
            unfold items3 at hy
            rw [List.getElem?_map] at hy
            cases hp : ss[k]? with
            | none => rw [hp] at hy; simp at hy
            | some p =>
              rw [hp] at hy
              simp only [Option.map_some, Option.some.injEq] at hy
              subst hy
              exact ⟨p, rfl, mk_data p⟩
          rw [hy2]
          have hkl := (List.getElem?_eq_some_iff.1 hp).1
          obtain ⟨b, o, rfl, hcap, hcell⟩ := strV_cells ((hr1.below hbw).below hB) k p hp
          have hbW : Below w1.heap.size w1 W := bel_trans hbw hB
          have hcl := (boxed_below HL.out hbW).cell
          have hcm := (boxed_below HM.out hbW).cell
          have hci := hi.cell
          have hfi := hi.frozen
          have hdk : decide (ss.length ≤ k) = false := by simp; omega
          have hset := hi.set (.int .i64 ((k : Int) + 1))
          have HSET := Lib.hid hset
          have hcs := hset.cell
          have hcm2 : (W.setCell ⟨wr.heap.size, 0, none⟩ (.int .i64 ((k : Int) + 1))).cell? ⟨w.heap.size + 1, 0, none⟩ = some (.int .i64 many) := (World.cell?_of_block (Below.heap_setCell _ _ _ _ (by simp; omega))).trans hcm
          have HB2 := Lib.hid hB
          have HHI := Lib.hid hi
          clear hbn hbe hgv hi hset hy hy2 hp hk hlt hB hbW
          by_cases hkk : (k : Int) + 1 = many
          · have hdm : ((k : Int) + 1 == many) = true := by simp [hkk]
            have HKK := Lib.hid hkk
            clear hkk
            gi_wp2
            refine ⟨keeps_set (KeepsFrom.refl _ _) _ _, ⟨rfl, HKK.out⟩, ?_, ?_⟩
            · exact HSET.out
            · exact HB2.out.setCell (p := ⟨wr.heap.size, 0, none⟩) (Nat.le_refl _) _
          · have hdm : ((k : Int) + 1 == many) = false := by simp [hkk]
            have HKK := Lib.hid hkk
            clear hkk
            gi_wp2
            refine ⟨keeps_set (KeepsFrom.refl _ _) _ _, Below.heap_setCell _ _ _ _ (by simp), ?_, ?_, ?_, ?_⟩
            · exact HSET.out
            · exact HB2.out.setCell (p := ⟨wr.heap.size, 0, none⟩) (Nat.le_refl _) _
            · simp; omega
            · have := HKK.out; omega
      case done =>
        rintro D W hD ⟨hi, hB, hge, hkm⟩ hK
        have hlen : (items3 ss).length = ss.length := by simp [items3]
        rw [hlen] at hi hkm
        have hbW : Below w1.heap.size w1 W := bel_trans hbw hB
        have hcl := (boxed_below HL.out hbW).cell
        have hcm := (boxed_below HM.out hbW).cell
        have hci := hi.cell
        have HBW2 := Lib.hid hbW
        clear hbn hbe hgv hi hk hlt hB hbW hlen
        have hmin : min many (ss.length : Int) = (ss.length : Int) := by omega
        gi_wp2_with fail
        refine ⟨trivial, (callsIn_wide.2 (fworks_any _)).mono ?_⟩
        rintro e w6 ⟨rfl, hb6⟩
        have hK6 := (hb6.block D (Array.getElem?_eq_some_iff.1 hK).1).trans hK
        have hbb := bel_trans HBW2.out hb6
        have hbr := boxed_below HX.out hbb
        have hc := hbr.cell
        have hf := hbr.frozen
        have hc2 := (hbr.set (.bool true)).cell
        clear hcl hcm hci
        gi_wp2_with fail
        have hDw : D ≠ w.heap.size + 1 + 1 := by omega
        have hK7 : (w6.setCell ⟨w.heap.size + 1 + 1, 0, none⟩ (.bool true)).heap[D]? = some (.deferred (some [])) := (Below.heap_setCell _ _ _ _ hDw).trans hK6
        refine ⟨by simp, .inl ⟨_, _, rfl, run_takeDeferred hK7, ?_⟩⟩
        have hc3 : ((w6.setCell ⟨w.heap.size + 1 + 1, 0, none⟩ (.bool true)).putObj D (.deferred none)).cell? ⟨w.heap.size + 1 + 1, 0, none⟩ = some (.bool true) := cell_kept hc2 (grownBy_putObj' _ D (.deferred none)) (fun r e => by cases e; exact ⟨_, hK7, rfl⟩)
        refine ⟨.bool true, by simp [results, Try.results14, go_sem, hc3], rfl, ?_⟩
        have hbel : Below w.heap.size w (w6.setCell ⟨w.heap.size + 1 + 1, 0, none⟩ (.bool true)) := (bel_trans HBW.out hbb).setCell (p := ⟨w.heap.size + 1 + 1, 0, none⟩) (by simp; omega) _
        exact hbel.trans (belowK_b (w := w) (Nat.le_refl _) _ D _ _ (by omega) hK7 rfl rfl)
      case stop =>
        rintro D c k W hD hk ⟨⟨rfl, rfl⟩, hi, hB⟩ hK
        have hlen : (items3 ss).length = ss.length := by simp [items3]
        rw [hlen] at hk
        have hbW : Below w1.heap.size w1 W := bel_trans hbw hB
        have hcl := (boxed_below HL.out hbW).cell
        have hcm := (boxed_below HM.out hbW).cell
        have hci := hi.cell
        have HBW2 := Lib.hid hbW
        clear hbn hbe hgv hi hlt hB hbW hlen
        have hmin : min ((k + 1 : Nat) : Int) (ss.length : Int) = ((k + 1 : Nat) : Int) := by omega
        obtain ⟨k1, hk1⟩ : ∃ k1, k + 1 = k1 := ⟨_, rfl⟩
        rw [hk1] at hci hcm hmin ⊢
        clear hk1
        gi_wp2_with fail
        refine ⟨trivial, (callsIn_wide.2 (fworks_any _)).mono ?_⟩
        rintro e w6 ⟨rfl, hb6⟩
        have hK6 := (hb6.block D (Array.getElem?_eq_some_iff.1 hK).1).trans hK
        have hbb := bel_trans HBW2.out hb6
        have hbr := boxed_below HX.out hbb
        have hc := hbr.cell
        have hf := hbr.frozen
        have hc2 := (hbr.set (.bool true)).cell
        clear hcl hcm hci
        gi_wp2_with fail
        have hDw : D ≠ w.heap.size + 1 + 1 := by omega
        have hK7 : (w6.setCell ⟨w.heap.size + 1 + 1, 0, none⟩ (.bool true)).heap[D]? = some (.deferred (some [])) := (Below.heap_setCell _ _ _ _ hDw).trans hK6
        refine ⟨by simp, .inl ⟨_, _, rfl, run_takeDeferred hK7, ?_⟩⟩
        have hc3 : ((w6.setCell ⟨w.heap.size + 1 + 1, 0, none⟩ (.bool true)).putObj D (.deferred none)).cell? ⟨w.heap.size + 1 + 1, 0, none⟩ = some (.bool true) := cell_kept hc2 (grownBy_putObj' _ D (.deferred none)) (fun r e => by cases e; exact ⟨_, hK7, rfl⟩)
        refine ⟨.bool true, by simp [results, Try.results14, go_sem, hc3], rfl, ?_⟩
        have hbel : Below w.heap.size w (w6.setCell ⟨w.heap.size + 1 + 1, 0, none⟩ (.bool true)) := (bel_trans HBW.out hbb).setCell (p := ⟨w.heap.size + 1 + 1, 0, none⟩) (by simp; omega) _
        exact hbel.trans (belowK_b (w := w) (Nat.le_refl _) _ D _ _ (by omega) hK7 rfl rfl)

theorem frameEarly_walk (v : Value) (ss : List ByteArray) (many : Int) (w : World) (hr : Reads w v ss.length (strV ss)) (hz : ∀ s ∈ ss, s.size ≤ maxLen) (_hm : (Lit.int .i64 many).wf = true) :
    Calls Try.prog 14 #[v, .int .i64 many] w fun e w' => e = .returned (.bool true) ∧ Below w.heap.size w w' := by
  by_cases h : 100 < ss.length ∨ many < 1
  · exact frameEarly_out v ss many w hr h
  · exact frameEarly_main v ss many w hr hz (by omega) (by omega)

end Go.Proofs.Ythnellehndggpaa
