/-
  The output's Open walked.
-/
import Derived.Test.YtllecjhfbojgcaaOutRead
namespace Go.Proofs.Ytllecjhfbojgcaa
open Go.RowKit
set_option maxRecDepth 20000

theorem oopen_nil (w : World) : Calls Try.prog 34 #[.pointer none] w fun e w' => e = .returned (.tuple #[.pointer none, .int .i64 1]) ∧ Below w.heap.size w w' := by
  go_enter Try.func34, Try.ntmps34
  go_wp2_with fail
  refine wp_loop_rounds 1 ?_
  rw [rounds_succ]
  go_wp2_with fail
  refine (logopen_nil _ _).mono ?_
  rintro e w1 ⟨rfl, rfl⟩
  go_wp2_with fail
  go_ret2
  exact ⟨rfl, bel_alloc _ _⟩

def OutB (fr : Fr) (w : World) (o d : Nat) (b l : Bool → Nat) (S : OSt) : Prop := ∃ col, OutAt fr w o d b l S col

/-- An output that has just been made. -/
theorem OutAt.made {fr : Fr} {w : World} {o d : Nat} {b l : Bool → Nat} {S : OSt} {F : Nat → Prop} {G : Bool → Nat → Prop} (old : Since fr w) (hF : ∀ k, F k → ¬ fr.K k) (hG : ∀ p k, G p k → ¬ fr.K k) (hb : ∀ p, ¬ fr.K (b p)) (ho : ¬ fr.K o)
    (disk : DiskAt w d S.D F) (log : ∀ p, LogAt w (l p) d (fO p) (S.L p) (G p)) (part : ∀ p, w.heap[b p]? = some (.cells #[ptr (l p) 0, .slice none 0 0] 140)) (cell : w.heap[o]? = some (.cells #[ptr (b false) 0, ptr (b true) 0] 137)) (hr : ∀ p, S.r p = [])
    (fg : ∀ p k, F k → ¬ G p k) (gg : ∀ k, G false k → ¬ G true k) (fb : ∀ p, ¬ F (b p)) (gb : ∀ p q, ¬ G p (b q)) (fo : ¬ F o) (go : ∀ p, ¬ G p o) (bb : b false ≠ b true) (bo : ∀ p, b p ≠ o) : OutB fr w o d b l S := by
  classical
  obtain ⟨c, hc⟩ : ∃ c : Nat → Nat, c = fun k => if F k then 1 else if G false k then 2 else if G true k then 3 else if k = b false then 4 else if k = b true then 5 else if k = o then 6 else 0 := ⟨_, rfl⟩
  have hck : ∀ k, c k = if F k then 1 else if G false k then 2 else if G true k then 3 else if k = b false then 4 else if k = b true then 5 else if k = o then 6 else 0 := fun k => by rw [hc]
  have s1 : (fun k => c k = 1) = F := by
    funext k
    apply propext
    rw [hck]
    by_cases a : F k
    · simp [a]
    · rw [if_neg a]
      refine ⟨fun e => ?_, fun e => absurd e a⟩
      exfalso
      revert e
      split
      · decide
      · split
        · decide
        · split
          · decide
          · split
            · decide
            · split <;> decide
  have s2 : ∀ p, (fun k => c k = cG p) = G p := fun p => by
    funext k
    apply propext
    rw [hck]
    by_cases a : F k
    · rw [if_pos a]
      exact ⟨fun e => absurd e.symm (cG_ne p).2.1, fun e => absurd e (fg p k a)⟩
    · rw [if_neg a]
      cases p
      · by_cases a2 : G false k
        · rw [if_pos a2]; exact ⟨fun _ => a2, fun _ => rfl⟩
        · rw [if_neg a2]
          refine ⟨fun e => ?_, fun e => absurd e a2⟩
          exfalso
          revert e
          show _ = 2 → False
          split
          · decide
          · split
            · decide
            · split
              · decide
              · split <;> decide
      · by_cases a2 : G false k
        · rw [if_pos a2]; exact ⟨fun e => absurd (show (2 : Nat) = 3 from e) (by decide), fun e => absurd e (gg k a2)⟩
        · rw [if_neg a2]
          by_cases a3 : G true k
          · rw [if_pos a3]; exact ⟨fun _ => a3, fun _ => rfl⟩
          · rw [if_neg a3]
            refine ⟨fun e => ?_, fun e => absurd e a3⟩
            exfalso
            revert e
            show _ = 3 → False
            split
            · decide
            · split
              · decide
              · split <;> decide
  have vb : ∀ p, c (b p) = cP p := fun p => by
    rw [hck, if_neg (fb p), if_neg (gb false p), if_neg (gb true p)]
    cases p
    · rw [if_pos rfl]; rfl
    · rw [if_neg (Ne.symm bb), if_pos rfl]; rfl
  have vo : c o = 6 := by rw [hck, if_neg fo, if_neg (go false), if_neg (go true), if_neg (Ne.symm (bo false)), if_neg (Ne.symm (bo true)), if_pos rfl]
  have s4 : ∀ p k, c k = cP p → k = b p := fun p k e => by
    rw [hck] at e
    by_cases a : F k
    · rw [if_pos a] at e; exact absurd e.symm (cP_ne p).2.1
    · rw [if_neg a] at e
      by_cases a2 : G false k
      · rw [if_pos a2] at e; exact absurd e.symm ((cP_ne p).2.2.2 false)
      · rw [if_neg a2] at e
        by_cases a3 : G true k
        · rw [if_pos a3] at e; exact absurd e.symm ((cP_ne p).2.2.2 true)
        · rw [if_neg a3] at e
          by_cases a4 : k = b false
          · rw [if_pos a4] at e
            cases p
            · exact a4
            · exact absurd (show (4 : Nat) = 5 from e) (by decide)
          · rw [if_neg a4] at e
            by_cases a5 : k = b true
            · rw [if_pos a5] at e
              cases p
              · exact absurd (show (5 : Nat) = 4 from e) (by decide)
              · exact a5
            · rw [if_neg a5] at e
              exfalso
              revert e
              cases p
              · show _ = 4 → False
                split <;> decide
              · show _ = 5 → False
                split <;> decide
  have hlt : ∀ k, c k ≠ 0 → F k ∨ G false k ∨ G true k ∨ k = b false ∨ k = b true ∨ k = o := fun k e => by
    rw [hck] at e
    by_cases a : F k
    · exact .inl a
    · by_cases a2 : G false k
      · exact .inr (.inl a2)
      · by_cases a3 : G true k
        · exact .inr (.inr (.inl a3))
        · by_cases a4 : k = b false
          · exact .inr (.inr (.inr (.inl a4)))
          · by_cases a5 : k = b true
            · exact .inr (.inr (.inr (.inr (.inl a5))))
            · by_cases a6 : k = o
              · exact .inr (.inr (.inr (.inr (.inr a6))))
              · rw [if_neg a, if_neg a2, if_neg a3, if_neg a4, if_neg a5, if_neg a6] at e
                exact absurd rfl e
  refine ⟨c, old, fun k hk => ?_, fun k hk => ?_, by rw [s1]; exact disk, fun p => by rw [s2]; exact log p, fun p => ⟨vb p, fun k hk => ?_, .slice none 0 0, [], part p, by rw [hr]; exact .inl (World.ownsRow_nil _ _ _ _), by rw [hr]; rfl, fun g hg => by simp [Value.ownBlock] at hg, fun q hq => by cases hq⟩, cell, vo⟩
  · by_cases e : c k = 0
    · exact e
    · exfalso
      rcases hlt k e with h | h | h | h | h | h
      · exact hF k h hk
      · exact hG _ k h hk
      · exact hG _ k h hk
      · exact hb _ (h ▸ hk)
      · exact hb _ (h ▸ hk)
      · exact ho (h ▸ hk)
  · rcases hlt k hk with h | h | h | h | h | h
    · exact disk.lt k h
    · exact (log false).lt k h
    · exact (log true).lt k h
    · rw [h]; exact (Array.getElem?_eq_some_iff.1 (part false)).1
    · rw [h]; exact (Array.getElem?_eq_some_iff.1 (part true)).1
    · rw [h]; exact (Array.getElem?_eq_some_iff.1 cell).1
  · have := s4 p k hk
    rw [this]; exact (Array.getElem?_eq_some_iff.1 (part p)).1

/-- The two logs that were opened, over one disk, with the parts and the box. -/
theorem OutB.ofOpen {fr : Fr} {w w1 X w2 Y : World} {o d b0 b1 l0 l1 : Nat} {D2 : Dk.St} {L0 L1 : Lg.St} {F : Nat → Prop}
    (hold : Since fr w) (hF : ∀ k, F k → ¬ fr.K k) (hFo : ¬ F o) (ho : ¬ fr.K o) (how : o < w.heap.size)
    {F1 G0 : Nat → Prop} (o1 : Only (fun k => F k ∨ False) w w1) (g0 : LogAt w1 l0 d 2 L0 G0) (fg1 : ∀ k, F1 k → ¬ G0 k) (f1 : ∀ k, F1 k → F k ∨ w.heap.size ≤ k) (gn1 : ∀ k, G0 k → False ∨ w.heap.size ≤ k) (g0lt : ∀ k, G0 k → k < w1.heap.size) (f1lt : ∀ k, F1 k → k < w1.heap.size)
    (hX : Only (fun k => k = o) w1 X) (hb0 : w1.heap.size ≤ b0) (hb0X : b0 < X.heap.size)
    (hXb : X.heap[b0]? = some (.cells #[ptr l0 0, .slice none 0 0] 140))
    (ht2 : Turned2 X w2 l1 d 3 D2 L1 F1 (fun _ => False)) (hY : Only (fun k => k = o) w2 Y) (hb1 : w2.heap.size ≤ b1)
    (hYb : Y.heap[b1]? = some (.cells #[ptr l1 0, .slice none 0 0] 140)) (hc : Y.heap[o]? = some (.cells #[ptr b0 0, ptr b1 0] 137)) :
    OutB fr Y o d (fun p => if p then b1 else b0) (fun p => if p then l1 else l0) ⟨D2, fun p => if p then L1 else L0, fun _ => []⟩ := by
  have hs1 := o1.size
  have hsX := hX.size
  have gX := g0.only hX (fun k hk e => by
    have e : k = o := e
    rcases gn1 k hk with h | h
    · exact h
    · omega)
  obtain ⟨F2, G1, o2, d2, g1, fg2, f2, gn2⟩ := ht2
  have hs2 := o2.size
  have hsY := hY.size
  have hF1o : ¬ F1 o := fun h => by rcases f1 o h with h | h; exact hFo h; omega
  have hF2o : ¬ F2 o := fun h => by rcases f2 o h with h | h; exact hF1o h; omega
  have hG0o : ¬ G0 o := fun h => by rcases gn1 o h with h | h; exact h; omega
  have hG1o : ¬ G1 o := fun h => by rcases gn2 o h with h | h; exact h; omega
  have hF1b : ¬ F1 b0 := fun h => by have := f1lt _ h; omega
  have hF2b : ¬ F2 b0 := fun h => by rcases f2 _ h with h | h; exact hF1b h; omega
  have hG0b : ¬ G0 b0 := fun h => by have := g0lt _ h; omega
  have hG1b : ¬ G1 b0 := fun h => by rcases gn2 _ h with h | h; exact h; omega
  have hF2c : ¬ F2 b1 := fun h => by have := d2.lt _ h; omega
  have hG0c : ¬ G0 b1 := fun h => by have := g0lt _ h; omega
  have hG1c : ¬ G1 b1 := fun h => by have := g1.lt _ h; omega
  have g02 := gX.only o2 (fun k hk e => by rcases e with e | e; exact fg1 k e hk; exact e)
  have hbel : Since fr Y := by
    have a1 := hold.only o1 (fun i hi => by rcases hi with h | h; exact hF i h; exact h.elim)
    have a2 := a1.only hX (fun i hi => by rw [show i = o from hi]; exact ho)
    have a3 := a2.only o2 (fun i hi => by
      rcases hi with h | h
      · rcases f1 i h with h | h
        · exact hF i h
        · exact hold.fresh h
      · exact h.elim)
    exact a3.only hY (fun i hi => by rw [show i = o from hi]; exact ho)
  have nO : ∀ {A : Nat → Prop}, ¬ A o → ∀ k, A k → ¬ k = o := fun hA k hk e => hA (e ▸ hk)
  have hF2K : ∀ k, F2 k → ¬ fr.K k := fun k hk => by
    rcases f2 k hk with h | h
    · rcases f1 k h with h | h
      · exact hF k h
      · exact hold.fresh h
    · exact hold.fresh (by omega)
  have hG0K : ∀ k, G0 k → ¬ fr.K k := fun k hk => by
    rcases gn1 k hk with h | h
    · exact h.elim
    · exact hold.fresh h
  have hG1K : ∀ k, G1 k → ¬ fr.K k := fun k hk => by
    rcases gn2 k hk with h | h
    · exact h.elim
    · exact hold.fresh (by omega)
  have hob0 : b0 ≠ o := by omega
  have hYb0 : Y.heap[b0]? = some (.cells #[ptr l0 0, .slice none 0 0] 140) := by
    have e1 := o2.block b0 hb0X (fun h => h.elim hF1b id)
    exact ((hY.block b0 (by omega) (show ¬ b0 = o from hob0)).trans e1).trans hXb
  refine OutAt.made (F := F2) (G := fun p => if p then G1 else G0) hbel hF2K (fun p k hk => ?_) (fun p => ?_) ho (d2.only hY (nO hF2o)) (fun p => ?_) (fun p => ?_) hc (fun _ => rfl) (fun p k hk hg => ?_) (fun k hk hg => ?_) (fun p => ?_) (fun p q => ?_) hF2o (fun p => ?_) (show b0 ≠ b1 by omega) (fun p => ?_)
  · cases p
    · exact hG0K k hk
    · exact hG1K k hk
  · cases p
    · exact hold.fresh (show w.heap.size ≤ b0 by omega)
    · exact hold.fresh (show w.heap.size ≤ b1 by omega)
  · cases p
    · exact g02.only hY (nO hG0o)
    · exact g1.only hY (nO hG1o)
  · cases p
    · exact hYb0
    · exact hYb
  · cases p
    · have hg : G0 k := hg
      rcases f2 k hk with h | h
      · exact fg1 k h hg
      · have := gX.lt k hg; omega
    · exact fg2 k hk hg
  · have hk : G0 k := hk
    have hg : G1 k := hg
    rcases gn2 k hg with h | h
    · exact h
    · have := gX.lt k hk; omega
  · cases p
    · exact hF2b
    · exact hF2c
  · cases p <;> cases q
    · exact hG0b
    · exact hG0c
    · exact hG1b
    · exact hG1c
  · cases p
    · exact hG0o
    · exact hG1o
  · cases p
    · exact hob0
    · show b1 ≠ o; omega

end Go.Proofs.Ytllecjhfbojgcaa
