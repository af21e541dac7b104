/-
  Cut walked: no log, out of range, nothing to cut.
-/
import Derived.Test.YtllecjhfbojgcaaLogPut
namespace Go.Proofs.Ytllecjhfbojgcaa
open Go.RowKit
set_option maxRecDepth 20000

theorem logcut_nil (k : Int) (w : World) : Calls Try.prog 81 #[.pointer none, .int .i64 k] w fun e w' => e = .returned (.int .i64 1) ∧ w = w' := by
  go_enter Try.func81, Try.ntmps81
  go_wp2_with fail
  go_ret
  exact ⟨rfl, rfl⟩

theorem logcut_range (w : World) (l d : Nat) (file : Int) (L : Lg.St) (G : Nat → Prop) (h : LogAt w l d file L G) (k : Int) (hk : k < 0 ∨ (L.rs.length : Int) < k) :
    Calls Try.prog 81 #[ptr l 0, .int .i64 k] w fun e w' => e = .returned (.int .i64 5) ∧ w = w' := by
  obtain ⟨lv, hc, hr, -⟩ := h.cells
  obtain ⟨⟨-, -, c2, -⟩, -, -⟩ := logcell hc
  obtain ⟨a, c, rfl⟩ := hr.reads.shape
  have hlen := hr.reads.lenLe
  unfold maxLen at hlen
  clear h hc hr
  unfold ptr
  rcases hk with hk | hk
  · go_enter Try.func81, Try.ntmps81
    go_wp2_with fail
    go_ret
    exact ⟨rfl, rfl⟩
  · have hk0 : ¬ k < 0 := by omega
    go_enter Try.func81, Try.ntmps81
    go_wp2_with fail
    go_ret
    exact ⟨rfl, rfl⟩

theorem logcut_all (w : World) (l d : Nat) (file : Int) (L : Lg.St) (G : Nat → Prop) (h : LogAt w l d file L G) :
    Calls Try.prog 81 #[ptr l 0, .int .i64 (L.rs.length : Int)] w fun e w' => e = .returned (.int .i64 0) ∧ w = w' := by
  obtain ⟨lv, hc, hr, -⟩ := h.cells
  obtain ⟨⟨-, -, c2, -⟩, -, -⟩ := logcell hc
  obtain ⟨a, c, rfl⟩ := hr.reads.shape
  have hlen := hr.reads.lenLe
  unfold maxLen at hlen
  clear h hc hr
  unfold ptr
  go_enter Try.func81, Try.ntmps81
  go_wp2_with fail
  go_ret
  exact ⟨rfl, rfl⟩

end Go.Proofs.Ytllecjhfbojgcaa

/-
  Cut walked: a cut.
-/
namespace Go.Proofs.Ytllecjhfbojgcaa
open Go.RowKit
set_option maxRecDepth 20000

/-- A row cut to its first k; its capacity is cut too. -/
theorem RowAt.cut {w : World} {e : TypeId} {size : Nat} {v : Value} {n : Nat} {xs : List Value} (h : RowAt w e size v n xs) (k : Nat) (hk : k ≤ n) (hn : 0 < n) :
    ∃ g c, v = .slice (some ⟨g, 0, none⟩) n c ∧ n ≤ c ∧ c ≤ maxLen ∧ RowAt w e size (.slice (some ⟨g, 0, none⟩) k k) k (xs.take (k * size)) := by
  have hm : k * size ≤ n * size := Nat.mul_le_mul_right _ hk
  rcases h with ⟨h1, h2⟩ | ⟨h1, g, cur, rfl, h2, h3, h4, h5⟩
  · rcases h2 with ⟨-, h2⟩ | ⟨g, c, cur, rfl, -, h2, h3, h4, h5, h6⟩
    · omega
    · refine ⟨g, c, rfl, h3, h4, .inr ⟨by rw [List.length_take]; omega, g, cur, rfl, h2, by omega, ?_, ?_⟩⟩
      · have : n * size ≤ c * size := Nat.mul_le_mul_right _ h3
        omega
      · rw [← h6, List.take_take, Nat.min_eq_left hm]
  · refine ⟨g, n, rfl, Nat.le_refl _, h3, .inr ⟨by rw [List.length_take]; omega, g, cur, rfl, h2, by omega, by omega, ?_⟩⟩
    rw [← h5, List.take_take, Nat.min_eq_left hm]

theorem Lg.take_len (rs : List Lg.Rec) (k : Nat) : (Lg.bytesOf (rs.take k)).length ≤ (Lg.bytesOf rs).length := Lg.ends_le rs k

/-- Behind the two stores of Cut. -/
theorem LogAt.cutAt {w : World} {l d : Nat} {file : Int} {L : Lg.St} {G : Nat → Prop} (h : LogAt w l d file L G) (k : Nat) (hk : k < L.rs.length) :
    ∃ g c, w.heap[l]? = some (.cells #[ptr d 0, .int .i64 file, .slice (some ⟨g, 0, none⟩) L.rs.length c, .int .i64 (L.sure : Int)] 155) ∧ L.rs.length ≤ c ∧ c ≤ maxLen ∧
      LogAt ((w.setCell ⟨l, 2, none⟩ (.slice (some ⟨g, 0, none⟩) k k)).setCell ⟨l, 3, none⟩ (.int .i64 ((min L.sure k : Nat) : Int))) l d file ⟨L.rs.take k, min L.sure k⟩ G := by
  obtain ⟨lv, h1, h2, h3⟩ := h.cells
  obtain ⟨g, c, rfl, hc, hm, hrow⟩ := h2.cut k (by omega) (by omega)
  obtain ⟨cur, hcur⟩ := h2.type g rfl
  have hgl : g ≠ l := fun e => far hcur h1 (by decide) e
  have hkl : (L.rs.take k).length = k := by rw [List.length_take]; omega
  refine ⟨g, c, h1, hc, hm, h.mem, fun i hi => by simpa using h.lt i hi, Nat.le_trans (Lg.take_len _ _) h.size, by show min L.sure k ≤ (L.rs.take k).length; omega, .slice (some ⟨g, 0, none⟩) k k, ?_, ?_, fun b hb => ?_⟩
  · have := cells_set (cells_set h1 2 (.slice (some ⟨g, 0, none⟩) k k)) 3 (.int .i64 ((min L.sure k : Nat) : Int))
    rw [this]
    rfl
  · show RowAt _ _ _ _ (L.rs.take k).length _
    rw [hkl, Lg.cells_take]
    refine hrow.kept (fun b hb => ?_)
    simp only [Value.ownBlock, Option.some.injEq] at hb
    subst hb
    exact (Below.heap_setCell _ _ _ _ (by exact hgl)).trans (Below.heap_setCell _ _ _ _ (by exact hgl))
  · exact h3 b hb

set_option maxHeartbeats 4000000 in
set_option maxRecDepth 100000 in
theorem logcut_good (w : World) (l d : Nat) (file : Int) (D : Dk.St) (L : Lg.St) (F G : Nat → Prop) (hd : DiskAt w d D F) (h : LogAt w l d file L G) (hne : ∀ k, F k → ¬ G k) (k : Nat) (hk : k < L.rs.length) (hm : D.loose.length ≤ 1000000000) :
    Calls Try.prog 81 #[ptr l 0, .int .i64 (k : Int)] w fun e w' => e = .returned (.int .i64 (Lg.cut D file L k).1) ∧ Turned2 w w' l d file (Lg.cut D file L k).2.1 (Lg.cut D file L k).2.2 F G := by
  obtain ⟨ce, D1, hcu⟩ : ∃ e D', Dk.cut D file (Lg.ends L.rs k : Int) = (e, D') := ⟨_, _, rfl⟩
  have hput : Lg.cut D file L k = if ce ≠ 0 then (ce, D1, L) else Lg.cutDone D1 L k := by
    unfold Lg.cut
    rw [if_neg (by omega), if_neg (by omega), Int.toNat_natCast, hcu]
  rw [hput]
  obtain ⟨R, hR⟩ : ∃ R, (if ce ≠ 0 then (ce, D1, L) else Lg.cutDone D1 L k) = R := ⟨_, rfl⟩
  rw [hR]
  have HR := Lib.hid hR
  clear hR
  obtain ⟨lv, hc, hr, hgg⟩ := h.cells
  obtain ⟨⟨c0, c1, c2, -⟩, -, -⟩ := logcell hc
  unfold ptr at c0
  obtain ⟨la, lc, rfl⟩ := hr.reads.shape
  have hlen := hr.reads.lenLe
  unfold maxLen at hlen
  have hend := fun W (hb : Below w.heap.size w W) => logend_any W l d file L G (h.below hb) k (by omega)
  obtain ⟨B, hB⟩ : ∃ B, Lg.ends L.rs k = B := ⟨_, rfl⟩
  rw [hB] at hend hcu
  have hk1 : ((k : Int) == (L.rs.length : Int)) = false := by simp; omega
  have hk2 : (k == L.rs.length) = false := by simp; omega
  have hk3 : decide ((k : Int) < 0) = false := by simp
  have hk4 : decide ((L.rs.length : Int) < (k : Int)) = false := by simp; omega
  have hk5 : decide (L.rs.length < k) = false := by simp; omega
  have HD := Lib.hid hd
  have HL := Lib.hid h
  have HNE := Lib.hid hne
  have HCU := Lib.hid hcu
  have HM := Lib.hid hm
  have HEND := Lib.hid hend
  have HK := Lib.hid hk
  clear hd h hne hcu hm hend hput hc hr hgg hB hk
  unfold ptr
  go_enter Try.func81, Try.ntmps81
  go_wp2_with fail
  refine wp_region_still_tail 11 (by kernel_rfl) (by kernel_rfl) ?_
  simp only [List.take_succ_cons, List.take_zero, List.drop_succ_cons, List.drop_zero]
  change wpStill _ _ w.drew (fun a' => wpList _ _ _ _ a' w.drew) _ _
  iterate 10 still_step
  still_call ((HEND.out w.drew (bel_drew w)).mono (fun e w' h => ⟨h.1, h.2.symm⟩))
  refine wpStill_nil ?_
  go_wp2_with fail
  refine (cut_any w.drew d D F (HD.out.below (bel_drew w)) file (B : Int) HM.out).mono ?_
  rintro e w1 ⟨rfl, F1, ho1, hd1, hF1⟩
  rw [HCU.out] at hd1 ⊢
  have hL1 := (HL.out.below (bel_drew w)).only ho1 (fun k hk hf => HNE.out k hf hk)
  have hon1 : Only F w w1 := (Only.below (bel_drew w)).trans ho1
  have hF1' : ∀ k, F1 k → F k ∨ w.heap.size ≤ k := hF1
  have hdis : ∀ k, F1 k → ¬ G k := fun k hk hg => by
    rcases hF1' k hk with h | h
    · exact HNE.out k h hg
    · have := HL.out.lt k hg; omega
  by_cases he : ce = 0
  · subst he
    obtain ⟨g, c, hc, hlc, hcm, hL2⟩ := hL1.cutAt k HK.out
    obtain ⟨⟨c0, c1, c2, c3⟩, f2, f3⟩ := logcell hc
    unfold ptr at c0
    unfold maxLen at hcm
    have hkc : k ≤ c := by have := HK.out; omega
    have hkm : ((k : Int) ≤ 9223372036854775807) := by omega
    have hmin : (min (L.sure : Int) (k : Int)) = ((min L.sure k : Nat) : Int) := by omega
    have HD1 := Lib.hid hd1
    have HL2 := Lib.hid hL2
    have HON := Lib.hid hon1
    have HF1 := Lib.hid hF1'
    have HDIS := Lib.hid hdis
    have HL1 := Lib.hid hL1
    clear hd1 hL2 hon1 hF1 hF1' hdis hL1 ho1
    go_wp2_with fail
    go_region
    have hlt := hc
    obtain ⟨U, hU⟩ : ∃ U, ((w1.setCell ⟨l, 2, none⟩ (.slice (some ⟨g, 0, none⟩) k k)).setCell ⟨l, 3, none⟩ (.int .i64 ((min L.sure k : Nat) : Int))).drew = U := ⟨_, rfl⟩
    rw [hU]
    have hoU : Only (fun i => i = l) w1 U := by
      rw [← hU]
      exact (Only.setCell (fun i => i = l) w1 ⟨l, 2, none⟩ _ rfl).trans ((Only.setCell (fun i => i = l) _ ⟨l, 3, none⟩ _ rfl).trans (Only.below (bel_drew _)))
    have hLU : LogAt U l d file ⟨L.rs.take k, min L.sure k⟩ G := by rw [← hU]; exact HL2.out.below (bel_drew _)
    have hdU := HD1.out.only hoU (fun i hi e => HDIS.out i hi (e ▸ HL1.out.mem))
    clear hU
    obtain ⟨lvU, hcU, hrU, -⟩ := hLU.cells
    obtain ⟨⟨c0, -, -, c3⟩, -, f3⟩ := logcell hcU
    unfold ptr at c0
    have HLU := Lib.hid hLU
    have HDU := Lib.hid hdU
    have HOU := Lib.hid hoU
    clear hLU hdU hoU hc hlt hcU hrU c1 c2 f2
    go_wp2_with fail
    refine (sync_any U d D1 F1 HDU.out).mono ?_
    rintro e w2 ⟨rfl, ho2, hd2⟩
    have hL2 := HLU.out.only ho2 (fun i hi e => HDIS.out i (by show F1 i; rw [e]; exact HDU.out.mem) hi)
    have hRe : Lg.cutDone D1 L k = R := by have := HR.out; rwa [if_neg (by simp)] at this
    have hLk : (L.rs.take k).length = k := by rw [List.length_take]; have := HK.out; omega
    have hon : Only (fun i => F i ∨ G i) w w2 := ((HON.out.mono (fun _ h => .inl h)).trans (HOU.out.mono (fun i e => .inr (e ▸ HL1.out.mem)))).trans' ho2 (fun i e => by
      rcases HF1.out d HDU.out.mem with h | h
      · exact .inl (.inl (e ▸ h))
      · exact .inr (e ▸ h))
    unfold Lg.cutDone at hRe
    by_cases hs : (Dk.sync D1).1 = 0
    · rw [if_pos hs] at hRe
      obtain ⟨lv2, hc2, -, -⟩ := hL2.cells
      obtain ⟨⟨-, -, -, g3⟩, -, g4⟩ := logcell hc2
      obtain ⟨s1, s2⟩ := hL2.setSure k (by show k ≤ (L.rs.take k).length; omega)
      have HS1 := Lib.hid s1
      have HS2 := Lib.hid s2
      have HO2 := Lib.hid hon
      have HD2 := Lib.hid (hd2.only s1 (fun i hi e => HDIS.out i hi (e ▸ HL1.out.mem)))
      have HRE := Lib.hid hRe
      clear s1 s2 hon hd2 hRe hL2 ho2 hc2
      rw [hs]
      go_wp2_with fail
      go_ret
      rw [← HRE.out]
      exact ⟨rfl, F1, G, HO2.out.trans (HS1.out.mono (fun i e => .inr (e ▸ HL1.out.mem))), HD2.out, HS2.out, HDIS.out, HF1.out, fun _ h => .inl h⟩
    · rw [if_neg hs] at hRe
      have hz : ((Dk.sync D1).1 == 0) = false := by simpa using hs
      have HO2 := Lib.hid hon
      have HD2 := Lib.hid hd2
      have HRE := Lib.hid hRe
      have HL3 := Lib.hid hL2
      clear hon hd2 hRe hL2 ho2 hs
      go_wp2_with fail
      go_ret
      rw [← HRE.out]
      exact ⟨rfl, F1, G, HO2.out, HD2.out, HL3.out, HDIS.out, HF1.out, fun _ h => .inl h⟩
  · have hz : (ce != 0) = true := by simpa using he
    have hRe : (ce, D1, L) = R := by have := HR.out; rwa [if_pos he] at this
    have HRE := Lib.hid hRe
    clear he hRe
    go_wp2_with fail
    go_ret
    rw [← HRE.out]
    exact ⟨rfl, F1, G, hon1.mono (fun _ h => .inl h), hd1, hL1, hdis, hF1', fun _ h => .inl h⟩

theorem logcut_any (w : World) (l d : Nat) (file : Int) (D : Dk.St) (L : Lg.St) (F G : Nat → Prop) (hd : DiskAt w d D F) (h : LogAt w l d file L G) (hne : ∀ k, F k → ¬ G k) (k : Int) (hm : D.loose.length ≤ 1000000000) :
    Calls Try.prog 81 #[ptr l 0, .int .i64 k] w fun e w' => e = .returned (.int .i64 (Lg.cut D file L k).1) ∧ Turned2 w w' l d file (Lg.cut D file L k).2.1 (Lg.cut D file L k).2.2 F G := by
  by_cases hr : k < 0 ∨ (L.rs.length : Int) < k
  · unfold Lg.cut
    rw [if_pos hr]
    refine (logcut_range w l d file L G h k hr).mono ?_
    rintro e w' ⟨rfl, rfl⟩
    exact ⟨rfl, Turned2.below hd h hne (Below.refl _ _)⟩
  · by_cases ha : k = (L.rs.length : Int)
    · subst ha
      unfold Lg.cut
      rw [if_neg (by omega), if_pos rfl]
      refine (logcut_all w l d file L G h).mono ?_
      rintro e w' ⟨rfl, rfl⟩
      exact ⟨rfl, Turned2.below hd h hne (Below.refl _ _)⟩
    · obtain ⟨n, rfl⟩ : ∃ n : Nat, k = n := ⟨k.toNat, by omega⟩
      exact logcut_good w l d file D L F G hd h hne n (by omega) hm

end Go.Proofs.Ytllecjhfbojgcaa
