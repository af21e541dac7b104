/-
  What a crash keeps, by the calls that made the changes.
-/
import Derived.Test.YtdnjmihalmhddaaDiskPlain
import Derived.Test.YtdnjmihalmhddaaArgsDop
namespace Go.Proofs.Ytdnjmihalmhddaa
namespace Dk

/-- The change that a call made. -/
def chOf (o : Dop) : Ch := if o.kind = 0 then .app o.f.toNat o.s else if o.kind = 1 then .cut o.f.toNat o.n.toNat else .mov o.f.toNat o.n.toNat

/-- The calls since the last Sync, one for each loose change. -/
structure Made (D : St) (apps : List Dop) : Prop where
  off : D.off = false
  left : D.left = -1
  loose : D.loose = apps.map chOf
  range : ∀ o ∈ apps, (o.kind = 0 ∨ o.kind = 1 ∨ o.kind = 2) ∧ 0 ≤ o.f ∧ o.f < 16

/-- The files behind the first k of them. -/
def stateAt (D : St) (k : Nat) : Files := runs D.sure (D.loose.take k)

theorem change_free {D : St} (h : D.left = -1) (c : Ch) : change D c = (0, { D with now := c.run D.now, loose := D.loose ++ [c] }) := by
  unfold change
  rw [h, if_neg (by decide)]
  simp [less]

/-- A call that is OK makes one change; one that is not makes none. -/
theorem made_append {D : St} {apps : List Dop} (h : Made D apps) (o : Dop) (hk : o.kind = 0) :
    (append D o.f o.s).1 = 0 ∧ (append D o.f o.s).2.sure = D.sure ∧ Made (append D o.f o.s).2 (apps ++ [o]) ∨ (append D o.f o.s).1 ≠ 0 ∧ (append D o.f o.s).2 = D := by
  unfold append
  by_cases hr : ready D [o.f] = 0
  · rw [if_neg (by simpa using hr)]
    obtain ⟨-, hf⟩ := ready_one hr
    by_cases hl : leftOf D < (o.s.size : Int)
    · rw [if_pos hl]
      exact .inr ⟨by simp, rfl⟩
    · rw [if_neg hl, change_free h.left]
      refine .inl ⟨rfl, rfl, h.off, h.left, ?_, fun x hx => ?_⟩
      · show D.loose ++ [_] = _
        rw [h.loose, List.map_append]
        simp [chOf, hk]
      · rcases List.mem_append.1 hx with hx | hx
        · exact h.range x hx
        · rw [List.mem_singleton] at hx
          subst hx
          exact ⟨.inl hk, hf⟩
  · rw [if_pos hr]
    exact .inr ⟨hr, rfl⟩
theorem made_cut {D : St} {apps : List Dop} (h : Made D apps) (o : Dop) (hk : o.kind = 1) :
    (cut D o.f o.n).1 = 0 ∧ (cut D o.f o.n).2.sure = D.sure ∧ Made (cut D o.f o.n).2 (apps ++ [o]) ∨ (cut D o.f o.n).1 ≠ 0 ∧ (cut D o.f o.n).2 = D := by
  unfold cut
  by_cases hr : ready D [o.f] = 0
  · rw [if_neg (by simpa using hr)]
    obtain ⟨-, hf⟩ := ready_one hr
    by_cases hl : o.n < 0 ∨ ((at' D.now o.f.toNat).size : Int) < o.n
    · rw [if_pos hl]
      exact .inr ⟨by simp, rfl⟩
    · rw [if_neg hl, change_free h.left]
      refine .inl ⟨rfl, rfl, h.off, h.left, ?_, fun x hx => ?_⟩
      · show D.loose ++ [_] = _
        rw [h.loose, List.map_append]
        simp [chOf, hk]
      · rcases List.mem_append.1 hx with hx | hx
        · exact h.range x hx
        · rw [List.mem_singleton] at hx
          subst hx
          exact ⟨.inr (.inl hk), hf⟩
  · rw [if_pos hr]
    exact .inr ⟨hr, rfl⟩
theorem made_move {D : St} {apps : List Dop} (h : Made D apps) (o : Dop) (hk : o.kind = 2) :
    (move D o.f o.n).1 = 0 ∧ (move D o.f o.n).2.sure = D.sure ∧ Made (move D o.f o.n).2 (apps ++ [o]) ∨ (move D o.f o.n).1 ≠ 0 ∧ (move D o.f o.n).2 = D := by
  unfold move
  by_cases hr : ready D [o.f, o.n] = 0
  · rw [if_neg (by simpa using hr)]
    obtain ⟨-, hf, -⟩ := ready_two hr
    by_cases hl : o.f = o.n
    · rw [if_pos hl]
      exact .inr ⟨by simp, rfl⟩
    · rw [if_neg hl, change_free h.left]
      refine .inl ⟨rfl, rfl, h.off, h.left, ?_, fun x hx => ?_⟩
      · show D.loose ++ [_] = _
        rw [h.loose, List.map_append]
        simp [chOf, hk]
      · rcases List.mem_append.1 hx with hx | hx
        · exact h.range x hx
        · rw [List.mem_singleton] at hx
          subst hx
          exact ⟨.inr (.inr hk), hf⟩
  · rw [if_pos hr]
    exact .inr ⟨hr, rfl⟩
theorem made_sync {D : St} {apps : List Dop} (h : Made D apps) : (sync D).1 = 0 ∧ (sync D).2.now = D.now ∧ (sync D).2.sure = D.now ∧ Made (sync D).2 [] := by
  unfold sync
  rw [h.off, h.left]
  exact ⟨rfl, rfl, rfl, rfl, by simp [less], rfl, fun x hx => by cases hx⟩

/-- What is there behind a crash, by the call behind those that are kept. -/
theorem kept_made {D : St} {apps : List Dop} (h : Made D apps) (a b : Int) :
    kept D a b = match apps[clip a apps.length]? with
      | some o => if o.kind = 0 then part o.f.toNat o.s (clip b o.s.size) (stateAt D (clip a apps.length)) else stateAt D (clip a apps.length)
      | none => stateAt D (clip a apps.length) := by
  unfold kept stateAt
  have hl : D.loose.length = apps.length := by rw [h.loose, List.length_map]
  rw [hl]
  have hg : D.loose[clip a apps.length]? = apps[clip a apps.length]?.map chOf := by rw [h.loose, List.getElem?_map]
  rw [hg]
  cases apps[clip a apps.length]? with
  | none => rfl
  | some o =>
    by_cases hk : o.kind = 0
    · simp only [Option.map_some]
      rw [if_pos hk]
      have : chOf o = .app o.f.toNat o.s := if_pos hk
      rw [this]
      rfl
    · simp only [Option.map_some]
      rw [if_neg hk]
      unfold chOf
      rw [if_neg hk]
      split <;> rfl
theorem crash_twice (D : St) (a b c e : Int) : (crash (crash D a b) c e).now = (crash D a b).now := by
  show kept (crash D a b) c e = kept D a b
  unfold kept
  simp [crash, tail, runs, kept]

end Dk
end Go.Proofs.Ytdnjmihalmhddaa
