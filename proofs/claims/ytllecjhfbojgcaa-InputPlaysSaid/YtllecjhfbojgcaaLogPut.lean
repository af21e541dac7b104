/-
  Put walked.
-/
import Derived.Test.YtllecjhfbojgcaaLogAt
import Derived.Test.YtllecjhfbojgcaaFrameWalks
import Derived.Deep.RegionLaw
import Derived.BigRegion
import Derived.StillTailTactics
import Derived.IntWalk
namespace Go.Proofs.Ytllecjhfbojgcaa
open Go.RowKit
set_option maxRecDepth 20000

theorem step_append_row {P : Program} {w : World} {ops : Array Oper} {o : Oper} {a : Act} {K : Act → World → Prop} {Q : Exit → Act → World → Prop} {E : Prop} (hgd : o.guard = none) (s x : Operand) (t : TypeId)
    (ho : o.op = .call { callee := .builtin .append, args := #[s, x], argTypes := #[t, t] })
    (e : TypeId) (i : TypeInfo) (z : Value) (size bytes : Nat) (ht : P.underlying t = some (.slice e)) (hi : P.info? e = some i) (hz : i.zero = some z)
    (hsize : i.size = size) (hby : i.bytes = bytes) (hzs : z.cells.size = size) (hsz : 0 < size)
    (v : Value) (n : Nat) (xs : List Value) (hs : a.eval s = v) (hown : RowAt w e size v n xs)
    (ad : Addr) (m c : Nat) (news : List Value) (hx : a.eval x = .slice (some ad) m c) (hl : news.length = m * size) (hnews : ∀ j u, news[j]? = some u → w.cell? (ad.add j) = some u) (h1 : ∀ u ∈ news, u.oneCell' = true)
    (hm : 0 < m) (h63 : n + m ≤ maxLen) (hbytes : (n + m) * bytes ≤ 140737488355328)
    (h : ∀ g cap w', w'.ownsRow 0 e size (.slice (some ⟨g, 0, none⟩) (n + m) cap) (n + m) (xs ++ news) → w.grownBy w' v.ownBlock → (v.ownBlock = some g ∨ w.heap.size ≤ g) → g < w'.heap.size → K (a.put o.dst (.slice (some ⟨g, 0, none⟩) (n + m) cap)) w') :
    if Region.wanted o (yielded ops a.tmps) = true then Oper.wp P o a w K Q else E := by
  rcases hown with hown | ⟨hlen, g0, cur, rfl, hg0, hnm, hns, htake⟩
  · refine step_append_lies w hgd s x t ho 0 e i z size bytes ht hi hz hsize hby hzs hsz v n xs hs hown ad m c news hx hl hnews h1 hm h63 hbytes (Nat.zero_le _) w.heap.size rfl ?_
    intro g cap w' h2 h3 h4 h5
    refine h g cap w' h2 h3 ?_ h5
    rcases h4 with h4 | h4
    · exact .inl h4
    · exact .inr (Nat.le_of_eq h4.symm)
  · refine step_append_grows hgd s x t ho e i z size bytes ht hi hz hsize hby hzs hsz (some ⟨g0, 0, none⟩) n n xs hs (fun h => by cases h) hlen ?_ ad m c news hx hl hnews h1 (by omega) h63 hbytes ?_
    · intro b hb j u hj
      cases hb
      rw [addr_add, Nat.zero_add]
      refine cells_at hg0 j u ?_
      have hlt := (List.getElem?_eq_some_iff.1 hj).1
      rw [hlen] at hlt
      rw [← htake, List.getElem?_take_of_lt hlt] at hj
      simpa using hj
    · intro v' w' ho' hg'
      obtain ⟨hxl, hor⟩ := ho'
      rcases hor with ⟨-, hz0⟩ | ⟨g, cap, cur', rfl, hge, hcc, h7, h8, h9, h10⟩
      · omega
      · exact h g cap w' ⟨hxl, .inr ⟨g, cap, cur', rfl, Nat.zero_le _, hcc, h7, h8, h9, h10⟩⟩ ⟨hg'.os, hg'.tape, hg'.output, hg'.size, fun k hk _ => hg'.block k hk (by simp)⟩ (.inr hge) (Array.getElem?_eq_some_iff.1 hcc).1

theorem infoRecord : (Try.prog.info? 162).map (fun i => (i.zero, i.size, i.bytes)) = some (some (.agg #[.int .u8 0, .string ⟨#[]⟩, .int .i64 0]), 3, 32) := by kernel_rfl

/-- Behind the append of a record, and the store of the row. -/
theorem putrec_end {w W w3 : World} {l d g cap : Nat} {file : Int} {L : Lg.St} {G : Nat → Prop} {lv : Value} {r : Lg.Rec} {xs : List Value}
    (h : LogAt w l d file L G) (hc : w.heap[l]? = some (.cells #[ptr d 0, .int .i64 file, lv, .int .i64 (L.sure : Int)] 155)) (hr : RowAt w 162 3 lv L.rs.length (Lg.cells L.rs)) (hg : ∀ g, lv.ownBlock = some g → G g)
    (hW : Below w.heap.size w W) (hgr : W.grownBy w3 lv.ownBlock) (hown : w3.ownsRow 0 162 3 (.slice (some ⟨g, 0, none⟩) (L.rs.length + 1) cap) (L.rs.length + 1) (Lg.cells L.rs ++ xs)) (hxs : Lg.cells L.rs ++ xs = Lg.cells (L.rs ++ [r])) (hsz : (Lg.bytesOf (L.rs ++ [r])).length ≤ 1000000000)
    (hat : lv.ownBlock = some g ∨ W.heap.size ≤ g) (hglt : g < w3.heap.size) :
    ∃ G', Only (fun k => G k) w (w3.setCell ⟨l, 2, none⟩ (.slice (some ⟨g, 0, none⟩) (L.rs.length + 1) cap)) ∧ LogAt (w3.setCell ⟨l, 2, none⟩ (.slice (some ⟨g, 0, none⟩) (L.rs.length + 1) cap)) l d file { L with rs := L.rs ++ [r] } G' ∧ (∀ k, G' k → G k ∨ w.heap.size ≤ k) := by
  have hlne : lv.ownBlock ≠ some l := fun e => by
    obtain ⟨cur, hcur⟩ := hr.type l e
    exact far hcur hc (by decide) rfl
  have hlt := h.lt l h.mem
  have hWs := hW.size
  have hgs := hgr.size
  have hkeep : ∀ k, k < w.heap.size → some k ≠ lv.ownBlock → w3.heap[k]? = w.heap[k]? := fun k hk hne => (hgr.block k (by omega) hne).trans (hW.block k hk)
  have hc3 : w3.heap[l]? = some (.cells #[ptr d 0, .int .i64 file, lv, .int .i64 (L.sure : Int)] 155) := (hkeep l hlt (Ne.symm hlne)).trans hc
  have hgl : g ≠ l := by
    rcases hat with h | h
    · intro e; rw [e] at h; exact hlne h
    · omega
  have hset : ∀ k, k ≠ l → (w3.setCell ⟨l, 2, none⟩ (.slice (some ⟨g, 0, none⟩) (L.rs.length + 1) cap)).heap[k]? = w3.heap[k]? := fun k hk => Below.heap_setCell _ _ _ _ (by exact hk)
  refine ⟨fun k => G k ∨ k = g, ?_, ⟨.inl h.mem, fun k hk => ?_, hsz, ?_, .slice (some ⟨g, 0, none⟩) (L.rs.length + 1) cap, ?_, ?_, fun b hb => ?_⟩, fun k hk => ?_⟩
  · refine ⟨hgr.os.trans hW.os, hgr.tape.trans hW.tape, hgr.output.trans hW.output, by simp; omega, fun k hk hs => ?_⟩
    rw [hset k (fun e => hs (e ▸ h.mem)), hkeep k hk (fun e => hs (hg k e.symm))]
  · simp only [World.size_setCell]
    rcases hk with hk | hk
    · have := h.lt k hk; omega
    · omega
  · have := h.sure
    show L.sure ≤ (L.rs ++ [r]).length
    simp
    omega
  · rw [cells_set hc3]
    rfl
  · refine .inl ?_
    show World.ownsRow _ 0 _ 3 _ (L.rs ++ [r]).length _
    rw [List.length_append]
    rw [hxs] at hown
    refine own_kept hown (fun b hb => ?_)
    simp only [Value.ownBlock, Option.some.injEq] at hb
    subst hb
    exact hset _ hgl
  · simp only [Value.ownBlock, Option.some.injEq] at hb
    exact .inr hb.symm
  · rcases hk with hk | hk
    · exact .inl hk
    · rcases hat with h1 | h1
      · exact .inl (hk ▸ hg g h1)
      · right; omega

end Go.Proofs.Ytllecjhfbojgcaa

/-
  Put walked, on.
-/
namespace Go.Proofs.Ytllecjhfbojgcaa
open Go.RowKit
set_option maxRecDepth 20000

theorem logput_nil (k : Int) (t : ByteArray) (w : World) : Calls Try.prog 48 #[.pointer none, .int .u8 k, .string t] w fun e w' => e = .returned (.int .i64 1) ∧ w = w' := by
  go_enter Try.func48, Try.ntmps48
  go_wp2_with fail
  go_ret
  exact ⟨rfl, rfl⟩

set_option maxHeartbeats 4000000 in
theorem logput_bad (w : World) (l d : Nat) (file : Int) (D : Dk.St) (L : Lg.St) (F G : Nat → Prop) (hd : DiskAt w d D F) (h : LogAt w l d file L G) (hne : ∀ k, F k → ¬ G k) (r : Lg.Rec) (hs : r.text.size ≤ 140737488351232) (hb : Lg.putE r.kind r.text ≠ 0) :
    Calls Try.prog 48 #[ptr l 0, .int .u8 (r.kind.toNat : Int), .string r.text] w fun e w' => e = .returned (.int .i64 (Lg.put D file L r).1) ∧ Turned2 w w' l d file (Lg.put D file L r).2.1 (Lg.put D file L r).2.2 F G := by
  have hp : Lg.put D file L r = (Lg.putE r.kind r.text, D, L) := if_pos hb
  rw [hp]
  have HD := Lib.hid hd
  have HL := Lib.hid h
  have HNE := Lib.hid hne
  by_cases h0 : r.kind.toNat = 0
  · have he : Lg.putE r.kind r.text = 2 := if_pos h0
    rw [he]
    obtain ⟨k, t⟩ := r
    have H0 := Lib.hid h0
    clear h hd hne hp hb h0 he
    unfold ptr
    go_enter Try.func48, Try.ntmps48
    go_wp2_with fail
    refine (putf_zero k t _ H0.out hs).mono ?_
    rintro e w1 ⟨rfl, hb1⟩
    go_wp2_with fail
    go_ret
    exact ⟨rfl, Turned2.below HD.out HL.out HNE.out hb1⟩
  · have hlong : 65536 < r.text.size := by
      unfold Lg.putE at hb
      rw [if_neg h0] at hb
      split at hb
      · assumption
      · exact absurd rfl hb
    have he : Lg.putE r.kind r.text = 3 := by
      unfold Lg.putE
      rw [if_neg h0, if_pos hlong]
    rw [he]
    obtain ⟨k, t⟩ := r
    have H0 := Lib.hid h0
    clear h hd hne hp hb h0 he
    unfold ptr
    go_enter Try.func48, Try.ntmps48
    go_wp2_with fail
    refine (putf_long k t _ H0.out hs hlong).mono ?_
    rintro e w1 ⟨rfl, hb1⟩
    go_wp2_with fail
    go_ret
    exact ⟨rfl, Turned2.below HD.out HL.out HNE.out hb1⟩

/-- Ahead of it there were new blocks alone. -/
theorem Turned2.after {w w1 w' : World} {l d : Nat} {file : Int} {D : Dk.St} {L : Lg.St} {F G : Nat → Prop} (hb : Below w.heap.size w w1) (h : Turned2 w1.drew w' l d file D L F G) : Turned2 w w' l d file D L F G := by
  obtain ⟨F', G', h1, h2, h3, h4, h5, h6⟩ := h
  have hs := hb.size
  have h1' : Only (fun k => F k ∨ G k) w1 w' := ⟨h1.os, h1.tape, h1.output, h1.size, h1.block⟩
  refine ⟨F', G', (Only.below hb).trans h1', h2, h3, h4, fun k hk => ?_, fun k hk => ?_⟩
  · rcases h5 k hk with h | h
    · exact .inl h
    · have h : w1.heap.size ≤ k := h
      exact .inr (by omega)
  · rcases h6 k hk with h | h
    · exact .inl h
    · have h : w1.heap.size ≤ k := h
      exact .inr (by omega)
theorem put_turned {w w1 w2 X : World} {l d : Nat} {file : Int} {D' : Dk.St} {L L' : Lg.St} {F F' G : Nat → Prop} (hb : Below w.heap.size w w1) (hl1 : LogAt w1 l d file L G) (hne : ∀ k, F k → ¬ G k)
    (ho2 : Only F w1.drew w2) (hd2 : DiskAt w2 d D' F') (hF : ∀ k, F' k → F k ∨ w1.drew.heap.size ≤ k) (hx : ∃ G', Only (fun k => G k) w2 X ∧ LogAt X l d file L' G' ∧ (∀ k, G' k → G k ∨ w2.heap.size ≤ k)) : Turned2 w X l d file D' L' F G := by
  obtain ⟨G', hox, hlx, hG⟩ := hx
  have ho2' : Only F w1 w2 := ⟨ho2.os, ho2.tape, ho2.output, ho2.size, ho2.block⟩
  have hs1 := hb.size
  have hs2 := ho2'.size
  have hFd : ∀ k, F' k → F k ∨ w1.heap.size ≤ k := hF
  have hdis : ∀ k, F' k → ¬ G k := fun k hk hg => by
    rcases hFd k hk with h | h
    · exact hne k h hg
    · have := hl1.lt k hg; omega
  refine ⟨F', G', ((Only.below hb).trans (ho2'.mono (fun _ h => .inl h))).trans (hox.mono (fun _ h => .inr h)), hd2.only hox hdis, hlx, fun k hk hg => ?_, fun k hk => ?_, fun k hk => ?_⟩
  · rcases hG k hg with h | h
    · exact hdis k hk h
    · have := hd2.lt k hk; omega
  · rcases hFd k hk with h | h
    · exact .inl h
    · exact .inr (by omega)
  · rcases hG k hk with h | h
    · exact .inl h
    · exact .inr (by omega)
theorem rs_le (rs : List Lg.Rec) : rs.length ≤ (Lg.bytesOf rs).length := by
  induction rs with
  | nil => simp [Lg.bytesOf]
  | cons r rs ih =>
    have h1 := Cl.putF_len r.kind r.text.data.toList
    have h2 : (Lg.bytesOf (r :: rs)).length = (Lg.frameB r).length + (Lg.bytesOf rs).length := by simp [Lg.bytesOf]
    rw [h2, List.length_cons]
    unfold Lg.frameB
    omega
theorem frame_size (r : Lg.Rec) (h : r.text.size ≤ 65536) : (⟨(Lg.frameB r).toArray⟩ : ByteArray).size = (Lg.frameB r).length ∧ (Lg.frameB r).length ≤ 65600 := by
  have h1 := Cl.putF_len r.kind r.text.data.toList
  have h2 := Cl.putText_len r.text.data.toList
  rw [len_data] at h2
  refine ⟨List.size_toArray, ?_⟩
  unfold Lg.frameB
  omega

set_option maxHeartbeats 8000000 in
set_option maxRecDepth 100000 in
theorem logput_good (w : World) (l d : Nat) (file : Int) (D : Dk.St) (L : Lg.St) (F G : Nat → Prop) (hd : DiskAt w d D F) (h : LogAt w l d file L G) (hne : ∀ k, F k → ¬ G k) (r : Lg.Rec) (hg : Lg.putE r.kind r.text = 0) (hm : D.loose.length ≤ 1000000000) (hbig : (Lg.bytesOf L.rs).length ≤ 900000000) :
    Calls Try.prog 48 #[ptr l 0, .int .u8 (r.kind.toNat : Int), .string r.text] w fun e w' => e = .returned (.int .i64 (Lg.put D file L r).1) ∧ Turned2 w w' l d file (Lg.put D file L r).2.1 (Lg.put D file L r).2.2 F G := by
  have hk0 : r.kind.toNat ≠ 0 := fun e => by unfold Lg.putE at hg; rw [if_pos e] at hg; exact absurd hg (by decide)
  have hsz : r.text.size ≤ 65536 := by
    unfold Lg.putE at hg
    rw [if_neg hk0] at hg
    split at hg
    · exact absurd hg (by decide)
    · omega
  obtain ⟨hf1, hf2⟩ := frame_size r hsz
  obtain ⟨fb, hfb⟩ : ∃ fb : ByteArray, (⟨(Lg.frameB r).toArray⟩ : ByteArray) = fb := ⟨_, rfl⟩
  rw [hfb] at hf1
  have hput : Lg.put D file L r = if (Dk.append D file fb).1 ≠ 0 then ((Dk.append D file fb).1, (Dk.append D file fb).2, L) else (0, (Dk.append D file fb).2, { L with rs := L.rs ++ [r] }) := by
    unfold Lg.put
    rw [if_neg (by simpa using hg), hfb]
  obtain ⟨e, D', hap⟩ : ∃ e D', Dk.append D file fb = (e, D') := ⟨_, _, rfl⟩
  rw [hap] at hput
  simp only at hput
  obtain ⟨lv, hc, hr, hgg⟩ := h.cells
  obtain ⟨⟨c0, c1, -, -⟩, -, -⟩ := logcell hc
  unfold ptr at c0
  have HD := Lib.hid hd
  have HL := Lib.hid h
  have HNE := Lib.hid hne
  have HAP := Lib.hid hap
  have HM := Lib.hid hm
  have HBIG := Lib.hid hbig
  have HK0 := Lib.hid hk0
  have HSZ := Lib.hid hsz
  have HFB := Lib.hid hfb
  have HF1 := Lib.hid hf1
  have HF2 := Lib.hid hf2
  obtain ⟨k, t⟩ := r
  obtain ⟨i0, hi0, hz0, hz1, hz2⟩ := info_parts infoRecord
  by_cases he : e = 0
  · subst he
    rw [if_neg (by simp)] at hput
    rw [hput]
    clear hd h hne hc hr hgg hg hm hbig hk0 hsz hf1 hf2 hfb hput hap
    unfold ptr
    go_enter Try.func48, Try.ntmps48
    go_wp2_with fail
    have hpf := putf_ok k t w HK0.out HSZ.out
    rw [show (Cl.putF k t.data.toList) = Lg.frameB ⟨k, t⟩ from rfl, HFB.out] at hpf
    refine hpf.mono ?_
    rintro e w1 ⟨rfl, hb1⟩
    have hL1 := HL.out.below hb1
    obtain ⟨lv1, hc1, hr1, hg1⟩ := hL1.cells
    obtain ⟨⟨c0, c1, -, -⟩, -, -⟩ := logcell hc1
    unfold ptr at c0
    have HD1 := Lib.hid (HD.out.below hb1)
    have HL1 := Lib.hid hL1
    have HB1 := Lib.hid hb1
    clear hb1 hL1 hc1 hr1 hg1 hpf
    go_wp2_with fail
    refine wp_region_still_tail 9 (by kernel_rfl) (by kernel_rfl) ?_
    simp only [List.take_succ_cons, List.take_zero, List.drop_succ_cons, List.drop_zero]
    change wpStill _ _ w1.drew (fun a' => wpList _ _ _ _ a' w1.drew) _ _
    repeat still_step
    refine wpStill_nil ?_
    go_wp2_with fail
    refine (append_any w1.drew d D F (HD1.out.below (bel_drew w1)) file fb HM.out).mono ?_
    rintro e w2 ⟨rfl, ht⟩
    rw [HAP.out] at ht ⊢
    obtain ⟨F', ho2, hD2, hF'⟩ := ht
    have hL2 := (HL1.out.below (bel_drew w1)).only ho2 (fun k hk hf => HNE.out k hf hk)
    obtain ⟨lv2, hc2, hr2, hg2⟩ := hL2.cells
    obtain ⟨la, lc, rfl⟩ := hr2.reads.shape
    have hlen := hr2.reads.lenLe
    unfold maxLen at hlen
    have hn3 : L.rs.length * 3 ≤ L.rs.length * 3 := Nat.le_refl _
    have hnb : L.rs.length ≤ 900000000 := by
      have h1 := HBIG.out
      have h2 := rs_le L.rs
      omega
    obtain ⟨⟨c0, c1, c2, c3⟩, f2, f3⟩ := logcell hc2
    have hlt2 : l < w2.heap.size := (Array.getElem?_eq_some_iff.1 hc2).1
    have hHL := logend_any w2.drew l d file L G (hL2.below (bel_drew w2)) L.rs.length (Nat.le_refl _)
    obtain ⟨B, hB⟩ : ∃ B, Lg.ends L.rs L.rs.length = B := ⟨_, rfl⟩
    rw [hB] at hHL
    have hB9 : B ≤ 900000000 := by rw [← hB, Lg.ends_all]; exact HBIG.out
    have hfb6 : fb.size ≤ 65600 := by rw [HF1.out]; exact HF2.out
    have e1 : IntKind.i64.wrap ((B : Int) + (fb.size : Int)) = (B : Int) + (fb.size : Int) := IntWalk.i64_in _ (by omega)
    have hlne : (Value.slice la L.rs.length lc).ownBlock ≠ some l := fun e => by
      obtain ⟨cur, hcur⟩ := hr2.type l e
      exact far hcur hc2 (by decide) rfl
    have HO2 := Lib.hid ho2
    have HD2 := Lib.hid hD2
    have HF' := Lib.hid hF'
    have HL2 := Lib.hid hL2
    have HC2 := Lib.hid hc2
    have HR2 := Lib.hid hr2
    have HG2 := Lib.hid hg2
    have HHL := Lib.hid hHL
    have HB := Lib.hid hB
    have HLNE := Lib.hid hlne
    clear ho2 hD2 hF' hL2 hc2 hr2 hg2 hHL hB hlne hlen hn3
    have hone : ∀ u ∈ [Value.int .u8 (k.toNat : Int), .string t, .int .i64 ((B : Int) + (fb.size : Int))], u.oneCell' = true := by simp [Value.oneCell']
    have HONE := Lib.hid hone
    clear hone
    have HXS := Lib.hid (show Lg.cells L.rs ++ [.int .u8 (k.toNat : Int), .string t, .int .i64 ((B : Int) + (fb.size : Int))] = Lg.cells (L.rs ++ [⟨k, t⟩]) by
      rw [Lg.cells_snoc, ← Lg.ends_all, HB.out, ← HF1.out, Int.natCast_add])
    have HSB := Lib.hid (show (Lg.bytesOf (L.rs ++ [⟨k, t⟩])).length ≤ 1000000000 by
      have := HBIG.out
      have := HF2.out
      rw [Lg.bytes_snoc, List.length_append]
      omega)
    go_wp2_with fail
    go_region_law (first
      | (refine step_append_row rfl _ _ 153 rfl 162 i0 _ 3 32 Try.underlying153 hi0 hz0 hz1 hz2 rfl (by omega) (.slice la L.rs.length lc) L.rs.length (Lg.cells L.rs) (by rfl) (HR2.out.kept (w' := (w2.alloc (.cells #[.int .u8 (k.toNat : Int), .string t, .int .i64 ((B : Int) + (fb.size : Int))] 162)).drew) (fun g hg => (Below.heap_alloc w2 _ g (by obtain ⟨cur, hcur⟩ := HR2.out.type g hg; exact (Array.getElem?_eq_some_iff.1 hcur).1)))) ⟨w2.heap.size, 0, none⟩ 1 1 [.int .u8 (k.toNat : Int), .string t, .int .i64 ((B : Int) + (fb.size : Int))] rfl rfl (World.news_of_block (cs := #[.int .u8 (k.toNat : Int), .string t, .int .i64 ((B : Int) + (fb.size : Int))]) (t := 162) (fr := (0, 0)) (heap_alloc_new w2 _)) HONE.out (by omega) (by unfold maxLen; omega) (by omega) ?_; intro gg cap w3 hown1 hgrow hat hltg; have q2 := (World.cell?_of_block (hgrow.block l (by simp; omega) (Ne.symm HLNE.out))).trans ((World.cell?_of_block (Below.heap_alloc w2 _ l hlt2)).trans c2); have qf := (World.frozen?_of_block (hgrow.block l (by simp; omega) (Ne.symm HLNE.out))).trans ((World.frozen?_of_block (Below.heap_alloc w2 _ l hlt2)).trans f2))
      | (go_simp; go_at_call 84; refine HHL.out.mono ?_; rintro e w' ⟨rfl, rfl⟩))
    all_goals
      have HOW := Lib.hid hown1
      have HGR := Lib.hid hgrow
      have HAT := Lib.hid hat
      clear hown1 hgrow hat q2 qf
      go_wp2_with fail
      go_ret
      refine ⟨rfl, put_turned HB1.out HL1.out HNE.out HO2.out HD2.out HF'.out ?_⟩
      exact putrec_end HL2.out HC2.out HR2.out HG2.out ((bel_alloc w2 (.cells #[.int .u8 (k.toNat : Int), .string t, .int .i64 ((B : Int) + (fb.size : Int))] 162)).drew) HGR.out HOW.out HXS.out HSB.out (by rcases HAT.out with h | h; exact .inl h; exact .inr (by simpa using h)) hltg
  · rw [if_pos (by simpa using he)] at hput
    rw [hput]
    have hz : (e != 0) = true := by simpa using he
    clear hd h hne hc hr hgg hg hm hbig hk0 hsz hf1 hf2 hfb hput hap he
    unfold ptr
    go_enter Try.func48, Try.ntmps48
    go_wp2_with fail
    have hpf := putf_ok k t w HK0.out HSZ.out
    rw [show (Cl.putF k t.data.toList) = Lg.frameB ⟨k, t⟩ from rfl, HFB.out] at hpf
    refine hpf.mono ?_
    rintro e w1 ⟨rfl, hb1⟩
    have hL1 := HL.out.below hb1
    obtain ⟨lv1, hc1, hr1, hg1⟩ := hL1.cells
    obtain ⟨⟨c0, c1, -, -⟩, -, -⟩ := logcell hc1
    unfold ptr at c0
    have HD1 := Lib.hid (HD.out.below hb1)
    have HL1 := Lib.hid hL1
    have HB1 := Lib.hid hb1
    clear hb1 hL1 hc1 hr1 hg1 hpf
    go_wp2_with fail
    refine wp_region_still_tail 9 (by kernel_rfl) (by kernel_rfl) ?_
    simp only [List.take_succ_cons, List.take_zero, List.drop_succ_cons, List.drop_zero]
    change wpStill _ _ w1.drew (fun a' => wpList _ _ _ _ a' w1.drew) _ _
    repeat still_step
    refine wpStill_nil ?_
    go_wp2_with fail
    refine (append_any w1.drew d D F (HD1.out.below (bel_drew w1)) file fb HM.out).mono ?_
    rintro e w2 ⟨rfl, ht⟩
    rw [HAP.out] at ht ⊢
    have HT := Lib.hid ht
    clear ht
    go_wp2_with fail
    go_ret
    exact ⟨rfl, Turned2.after HB1.out (Turned2.disk (HL1.out.below (bel_drew w1)) HNE.out HT.out)⟩

theorem logput_any (w : World) (l d : Nat) (file : Int) (D : Dk.St) (L : Lg.St) (F G : Nat → Prop) (hd : DiskAt w d D F) (h : LogAt w l d file L G) (hne : ∀ k, F k → ¬ G k) (r : Lg.Rec) (hs : r.text.size ≤ 140737488351232) (hm : D.loose.length ≤ 1000000000) (hbig : (Lg.bytesOf L.rs).length ≤ 900000000) :
    Calls Try.prog 48 #[ptr l 0, .int .u8 (r.kind.toNat : Int), .string r.text] w fun e w' => e = .returned (.int .i64 (Lg.put D file L r).1) ∧ Turned2 w w' l d file (Lg.put D file L r).2.1 (Lg.put D file L r).2.2 F G := by
  by_cases hg : Lg.putE r.kind r.text = 0
  · exact logput_good w l d file D L F G hd h hne r hg hm hbig
  · exact logput_bad w l d file D L F G hd h hne r hs hg

end Go.Proofs.Ytllecjhfbojgcaa
