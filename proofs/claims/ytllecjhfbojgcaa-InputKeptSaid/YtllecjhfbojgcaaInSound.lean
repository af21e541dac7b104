/-
  The input's files, plainly: what an Add leaves, with a power limit or without; what Open finds.
-/
import Derived.Test.YtllecjhfbojgcaaInOpen3
namespace Go.Proofs.Ytllecjhfbojgcaa
open Go.RowKit
set_option maxRecDepth 20000

theorem ent_good (i : Nat) (x : InR) : Lg.Good (entI i x) ∧ (entI i x).text.size ≤ 30 := by
  have h := Cl.put_len [(i : Int), x.key, x.val]
  have e : (entI i x).text.size = (Cl.put [(i : Int), x.key, x.val]).length := by unfold entI; exact List.size_toArray
  simp at h
  exact ⟨⟨by simp [entI], by omega⟩, by omega⟩
theorem ents_good (p : Int) (rs : List InR) : ∀ r ∈ ents p rs, Lg.Good r := fun r hr => by
  obtain ⟨q, -, rfl⟩ := List.mem_map.1 hr
  exact (ent_good q.1 q.2).1
theorem bytes_le (l : List (Nat × InR)) : (Lg.bytesOf (l.map fun q => entI q.1 q.2)).length ≤ 45 * l.length := by
  induction l with
  | nil => simp [Lg.bytesOf]
  | cons q l ih =>
    have h1 := Lg.frame_le (entI q.1 q.2)
    have h2 := (ent_good q.1 q.2).2
    have e : Lg.bytesOf ((q :: l).map fun q => entI q.1 q.2) = Lg.frameB (entI q.1 q.2) ++ Lg.bytesOf (l.map fun q => entI q.1 q.2) := by simp [Lg.bytesOf]
    rw [e, List.length_append, List.length_cons]
    omega
theorem ents_le (p : Int) (rs : List InR) : (Lg.bytesOf (ents p rs)).length ≤ 45 * rs.length := by
  have h1 := bytes_le (pairsI p rs)
  have h2 := pairsN_le p rs 0
  unfold ents
  unfold pairsI at h1 ⊢
  omega

end Go.Proofs.Ytllecjhfbojgcaa

/-
  The input, plainly: what is on the disk as records are added, behind a crash, and when it is opened.
-/
namespace Go.Proofs.Ytllecjhfbojgcaa
open Go.RowKit
set_option maxRecDepth 20000

def fI (p : Bool) : Nat := if p then 1 else 0
def sI (rs : List InR) (p : Bool) : List Lg.Rec := ents (if p then 1 else 0) rs
def bI (x : InR) : Bool := decide (x.part = 1)

theorem sI_snoc (rs : List InR) (x : InR) (hx : x.part = 0 ∨ x.part = 1) : (fun p => sI rs p ++ Lg.pick p [(bI x, entI rs.length x)]) = sI (rs ++ [x]) := by
  funext p
  unfold sI bI
  rw [ents_snoc]
  rcases hx with hx | hx
  · cases p
    · simp [hx, Lg.pick]
    · simp [hx, Lg.pick]
  · cases p
    · simp [hx, Lg.pick]
    · simp [hx, Lg.pick]
theorem sI_bytes (rs : List InR) (p : Bool) : (Lg.bytesOf (sI rs p)).length ≤ 45 * rs.length := ents_le _ rs

structure Sound (S : InSt) : Prop where
  two : Lg.Two fI S.D (sI S.rs) []
  l0 : S.L0 = ⟨ents 0 S.rs, (ents 0 S.rs).length⟩
  l1 : S.L1 = ⟨ents 1 S.rs, (ents 1 S.rs).length⟩
  part : ∀ x ∈ S.rs, x.part = 0 ∨ x.part = 1
  in64 : ∀ x ∈ S.rs, Cl.In64 x.key ∧ Cl.In64 x.val

theorem Sound.total {S : InSt} (h : Sound S) : Dk.total S.D.now ≤ 90 * S.rs.length := by
  have h1 := h.two.total
  rw [Lg.pick_nil, Lg.pick_nil, List.append_nil, List.append_nil] at h1
  have := sI_bytes S.rs false
  have := sI_bytes S.rs true
  omega

theorem add_bad {S : InSt} {x : InR} (hx : x.part < 0 ∨ 2 ≤ x.part) : S.add x = (2, S) := if_pos hx

theorem Sound.add {S : InSt} (h : Sound S) (hn : S.rs.length ≤ 200) (x : InR) (hx : x.part = 0 ∨ x.part = 1) (hin : Cl.In64 x.key ∧ Cl.In64 x.val) :
    ((S.add x).1 = 0 ∧ (S.add x).2.rs = S.rs ++ [x] ∧ Sound (S.add x).2 ∧ (Lg.Free S.D → Lg.Free (S.add x).2.D)) ∨
    ((S.add x).1 = 50 ∧ ¬ Lg.Free S.D ∧ ∃ l, (l = [] ∨ l = [(bI x, entI S.rs.length x)]) ∧ Lg.Two fI (S.add x).2.D (sI S.rs) l) := by
  have hg := ent_good S.rs.length x
  have hfl := Lg.frame_le (entI S.rs.length x)
  have ht := h.total
  have hroom : Dk.total S.D.now + (Lg.frameB (entI S.rs.length x)).length ≤ 4194304 := by omega
  have hsn := sI_snoc S.rs x hx
  have hent : S.ent x = entI S.rs.length x := rfl
  have hpart : ∀ y ∈ S.rs ++ [x], y.part = 0 ∨ y.part = 1 := fun y hy => by
    rcases List.mem_append.1 hy with hy | hy
    · exact h.part y hy
    · rw [List.mem_singleton.1 hy]; exact hx
  have hin64 : ∀ y ∈ S.rs ++ [x], Cl.In64 y.key ∧ Cl.In64 y.val := fun y hy => by
    rcases List.mem_append.1 hy with hy | hy
    · exact h.in64 y hy
    · rw [List.mem_singleton.1 hy]; exact hin
  have nofree : ∀ {D : Dk.St}, (D.off = true ∨ D.left = 0) → ¬ Lg.Free D := fun hD hF => by
    rcases hD with e | e
    · rw [hF.off] at e; cases e
    · rw [hF.left] at e; cases e
  unfold InSt.add
  rw [if_neg (by omega), if_neg (by omega)]
  rcases hx with hx | hx
  · rw [if_pos hx, hent]
    have hb : bI x = false := by simp [bI, hx]
    have hL : S.L0.rs = sI S.rs false ++ Lg.pick false [] := by rw [h.l0, Lg.pick_nil, List.append_nil]; rfl
    have hput := h.two.put false S.L0 (entI S.rs.length x) hg.1 hroom
    rw [show ((fI false : Nat) : Int) = 0 from rfl] at hput
    rcases hput with ⟨h1, h2, h3, h4⟩ | ⟨h1, h2, h3, h4⟩
    · have e1 : (S.put0 (entI S.rs.length x)).1 = 50 := h1
      rw [if_pos (by rw [e1]; decide)]
      exact .inr ⟨e1, nofree h2, [], .inl rfl, h4⟩
    · have e1 : (S.put0 (entI S.rs.length x)).1 = 0 := h1
      rw [if_neg (by rw [e1]; decide)]
      have hs : (Lg.put S.D 0 S.L0 (entI S.rs.length x)).2.2.sure ≤ (sI S.rs false).length := by
        rw [h2, h.l0]
        exact Nat.le_refl _
      have hL2 : (Lg.put S.D 0 S.L0 (entI S.rs.length x)).2.2.rs = sI S.rs false ++ Lg.pick false ([] ++ [(false, entI S.rs.length x)]) := by
        rw [h2, List.nil_append, Lg.pick_same]
        show S.L0.rs ++ _ = _
        rw [h.l0]
        rfl
      rw [List.nil_append] at h3 hL2
      rcases h3.sync false _ hL2 hs with ⟨g1, g2, g3, g4⟩ | ⟨g1, g2, g3, g4⟩
      · exact .inr ⟨g1, fun hF => nofree g2 (h4 hF), [(bI x, entI S.rs.length x)], .inr rfl, by rw [hb]; exact g4⟩
      · refine .inl ⟨g1, rfl, ?_, fun hF => g4 (h4 hF)⟩
        rcases g3 with ⟨g3, -⟩ | g3
        · rw [Lg.pick_same] at g3
          cases g3
        · rw [hb] at hsn
          rw [hsn] at g3
          refine ⟨g3, ?_, ?_, hpart, hin64⟩
          · refine Eq.trans g2 ?_
            have e2 : (Lg.put S.D 0 S.L0 (entI S.rs.length x)).2.2.rs = ents 0 (S.rs ++ [x]) := by
              rw [h2, ents_snoc, if_pos hx]
              show S.L0.rs ++ _ = _
              rw [h.l0]
            rw [e2]
            rfl
          · show S.L1 = ⟨ents 1 (S.rs ++ [x]), (ents 1 (S.rs ++ [x])).length⟩
            rw [ents_snoc, if_neg (by omega), List.append_nil]
            exact h.l1
  · rw [if_neg (by omega), hent]
    have hb : bI x = true := by simp [bI, hx]
    have hL : S.L1.rs = sI S.rs true ++ Lg.pick true [] := by rw [h.l1, Lg.pick_nil, List.append_nil]; rfl
    have hput := h.two.put true S.L1 (entI S.rs.length x) hg.1 hroom
    rw [show ((fI true : Nat) : Int) = 1 from rfl] at hput
    rcases hput with ⟨h1, h2, h3, h4⟩ | ⟨h1, h2, h3, h4⟩
    · have e1 : (S.put1 (entI S.rs.length x)).1 = 50 := h1
      rw [if_pos (by rw [e1]; decide)]
      exact .inr ⟨e1, nofree h2, [], .inl rfl, h4⟩
    · have e1 : (S.put1 (entI S.rs.length x)).1 = 0 := h1
      rw [if_neg (by rw [e1]; decide)]
      have hs : (Lg.put S.D 1 S.L1 (entI S.rs.length x)).2.2.sure ≤ (sI S.rs true).length := by
        rw [h2, h.l1]
        exact Nat.le_refl _
      have hL2 : (Lg.put S.D 1 S.L1 (entI S.rs.length x)).2.2.rs = sI S.rs true ++ Lg.pick true ([] ++ [(true, entI S.rs.length x)]) := by
        rw [h2, List.nil_append, Lg.pick_same]
        show S.L1.rs ++ _ = _
        rw [h.l1]
        rfl
      rw [List.nil_append] at h3 hL2
      rcases h3.sync true _ hL2 hs with ⟨g1, g2, g3, g4⟩ | ⟨g1, g2, g3, g4⟩
      · exact .inr ⟨g1, fun hF => nofree g2 (h4 hF), [(bI x, entI S.rs.length x)], .inr rfl, by rw [hb]; exact g4⟩
      · refine .inl ⟨g1, rfl, ?_, fun hF => g4 (h4 hF)⟩
        rcases g3 with ⟨g3, -⟩ | g3
        · rw [Lg.pick_same] at g3
          cases g3
        · rw [hb] at hsn
          rw [hsn] at g3
          refine ⟨g3, ?_, ?_, hpart, hin64⟩
          · show S.L0 = ⟨ents 0 (S.rs ++ [x]), (ents 0 (S.rs ++ [x])).length⟩
            rw [ents_snoc, if_neg (by omega), List.append_nil]
            exact h.l0
          · refine Eq.trans g2 ?_
            have e2 : (Lg.put S.D 1 S.L1 (entI S.rs.length x)).2.2.rs = ents 1 (S.rs ++ [x]) := by
              rw [h2, ents_snoc, if_pos hx]
              show S.L1.rs ++ _ = _
              rw [h.l1]
            rw [e2]
            rfl

theorem Sound.fresh : Sound ⟨Dk.fresh 4194304, ⟨[], 0⟩, ⟨[], 0⟩, []⟩ := by
  refine ⟨⟨Dk.fresh_ok _ (by decide), fun p q hpq => ?_, fun p => ?_, fun p => ?_, rfl, fun p r hr => ?_, fun q hq => (by cases hq), rfl, ?_⟩, rfl, rfl, fun x hx => (by cases hx), fun x hx => (by cases hx)⟩
  · cases p <;> cases q <;> first | exact absurd rfl hpq | decide
  · cases p <;> decide
  · cases p <;> kernel_rfl
  · cases p <;> cases hr
  · kernel_rfl

/-- Behind a crash. -/
theorem two_crash {D : Dk.St} {rs : List InR} {x : InR} (hx : x.part = 0 ∨ x.part = 1) {l : List (Bool × Lg.Rec)} (hl : l = [] ∨ l = [(bI x, entI rs.length x)]) (h : Lg.Two fI D (sI rs) l) (hn : rs.length ≤ 200) (a b : Int) :
    ∃ rs' t, (rs' = rs ∨ l ≠ [] ∧ rs' = rs ++ [x]) ∧ Lg.Tear fI (Dk.crash D a b) (sI rs') t ∧ ∀ p, (Lg.bytesOf (sI rs' p)).length + (t p).length ≤ 1000000 := by
  obtain ⟨k, t, hk, h1, h2⟩ := h.crash a b
  have hb : ∀ p, (Lg.bytesOf (sI rs p ++ Lg.pick p l)).length ≤ 1000000 := fun p => by
    rcases hl with rfl | rfl
    · rw [Lg.pick_nil, List.append_nil]
      have := sI_bytes rs p
      omega
    · rw [show sI rs p ++ Lg.pick p [(bI x, entI rs.length x)] = sI (rs ++ [x]) p from congrFun (sI_snoc rs x hx) p]
      have := sI_bytes (rs ++ [x]) p
      rw [List.length_append, List.length_singleton] at this
      omega
  have fin : ∀ rs', (fun p => sI rs p ++ Lg.pick p (l.take k)) = sI rs' → Lg.Tear fI (Dk.crash D a b) (sI rs') t ∧ ∀ p, (Lg.bytesOf (sI rs' p)).length + (t p).length ≤ 1000000 := fun rs' e => by
    rw [e] at h1
    refine ⟨h1, fun p => Nat.le_trans ?_ (hb p)⟩
    have h3 := h2 p
    rw [show sI rs p ++ Lg.pick p (l.take k) = sI rs' p from congrFun e p] at h3
    exact h3
  rcases hl with rfl | rfl
  · obtain ⟨h3, h4⟩ := fin rs (by funext p; rw [List.take_nil, Lg.pick_nil, List.append_nil])
    exact ⟨rs, t, .inl rfl, h3, h4⟩
  · rcases (show k = 0 ∨ k = 1 by simp at hk; omega) with rfl | rfl
    · obtain ⟨h3, h4⟩ := fin rs (by funext p; rw [List.take_zero, Lg.pick_nil, List.append_nil])
      exact ⟨rs, t, .inl rfl, h3, h4⟩
    · obtain ⟨h3, h4⟩ := fin (rs ++ [x]) (sI_snoc rs x hx)
      exact ⟨rs ++ [x], t, .inr ⟨by simp, rfl⟩, h3, h4⟩

/-- What the input's Open finds. -/
theorem tear_open {D : Dk.St} {rs : List InR} {t : Bool → List UInt8} (h : Lg.Tear fI D (sI rs) t) (hsz : ∀ p, (Lg.bytesOf (sI rs p)).length + (t p).length ≤ 1000000) (hp : ∀ x ∈ rs, x.part = 0 ∨ x.part = 1) (hin : ∀ x ∈ rs, Cl.In64 x.key ∧ Cl.In64 x.val) :
    ∃ D1 D2, Opens D 0 D1 (ents 0 rs) ∧ Opens D1 1 D2 (ents 1 rs) ∧ Lg.Tear fI D2 (sI rs) (fun _ => []) ∧ Sound ⟨D2, ⟨ents 0 rs, (ents 0 rs).length⟩, ⟨ents 1 rs, (ents 1 rs).length⟩, rs⟩ := by
  obtain ⟨D1, D2, h1, h2, h3⟩ := h.both hsz
  exact ⟨D1, D2, h1, h2, h3, ⟨h3.two, rfl, rfl, hp, hin⟩⟩
theorem Sound.tear {S : InSt} (h : Sound S) (hF : Lg.Free S.D) : Lg.Tear fI S.D (sI S.rs) (fun _ => []) := h.two.tear hF
theorem Sound.size {S : InSt} (_h : Sound S) (hn : S.rs.length ≤ 201) : ∀ p, (Lg.bytesOf (sI S.rs p)).length + ([] : List UInt8).length ≤ 1000000 := fun p => by
  have := sI_bytes S.rs p
  rw [List.length_nil]
  omega

end Go.Proofs.Ytllecjhfbojgcaa
