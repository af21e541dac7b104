/-
  The rows of DiskKept: the states since the last Sync, the calls that made them.
-/
import Derived.Test.YtdnjmihalmhddaaDiskAll
import Derived.Test.YtdnjmihalmhddaaDiskKeptP
import Derived.Test.YtdnjmihalmhddaaShelf
import Derived.Deep.CutRange
import Derived.Deep.AppendLies
namespace Go.Proofs.Ytdnjmihalmhddaa
open Go.RowKit

/-- The blocks of the rows. -/
def Kof (s11 s12 : Value) (vss : List Value) : Nat → Prop := fun b => s11.ownBlock = some b ∨ s12.ownBlock = some b ∨ ∃ v ∈ vss, v.ownBlock = some b

structure Rows (w wr : World) (st : Nat → Dk.Files) (apps : List Dop) (vss : List Value) (s11 s12 : Value) : Prop where
  len : vss.length = apps.length + 1
  row1 : wr.ownsRow 0 49 1 s11 vss.length vss
  row2 : wr.ownsRow 0 42 5 s12 apps.length (dopCells apps)
  own : ∀ b, Kof s11 s12 vss b → w.heap.size ≤ b
  state : ∀ k v, vss[k]? = some v → ∃ g cap, v = .slice (some ⟨g, 0, none⟩) 16 cap ∧ wr.ownsRow 0 9 1 v 16 (strV (st k))

theorem Rows.kept {w wr wr' : World} {st : Nat → Dk.Files} {apps : List Dop} {vss : List Value} {s11 s12 : Value} (h : Rows w wr st apps vss s11 s12) (hk : ∀ b, Kof s11 s12 vss b → wr'.heap[b]? = wr.heap[b]?) : Rows w wr' st apps vss s11 s12 := by
  refine ⟨h.len, own_kept h.row1 (fun b hb => hk b (.inl hb)), own_kept h.row2 (fun b hb => hk b (.inr (.inl hb))), h.own, fun k v hv => ?_⟩
  obtain ⟨g, cap, h1, h2⟩ := h.state k v hv
  exact ⟨g, cap, h1, own_kept h2 (fun b hb => hk b (.inr (.inr ⟨v, List.mem_of_getElem? hv, hb⟩)))⟩
theorem Rows.st {w wr : World} {st st' : Nat → Dk.Files} {apps : List Dop} {vss : List Value} {s11 s12 : Value} (h : Rows w wr st apps vss s11 s12) (hs : ∀ k, k ≤ apps.length → st' k = st k) : Rows w wr st' apps vss s11 s12 := by
  refine ⟨h.len, h.row1, h.row2, h.own, fun k v hv => ?_⟩
  obtain ⟨g, cap, h1, h2⟩ := h.state k v hv
  have hlt := (List.getElem?_eq_some_iff.1 hv).1
  rw [h.len] at hlt
  exact ⟨g, cap, h1, by rw [hs k (by omega)]; exact h2⟩

/-- A disk of the law, and the rows. -/
structure KdAt (w wr : World) (d : Nat) (D : Dk.St) (apps : List Dop) (s11 s12 : Value) (X : Nat → Prop) : Prop where
  ex : ∃ vss, DkK w wr d D (fun b => Kof s11 s12 vss b ∨ X b) ∧ Rows w wr (Dk.stateAt D) apps vss s11 s12
  made : Dk.Made D apps

theorem stateAt_more {D D' : Dk.St} {apps : List Dop} {o : Dop} (h : Dk.Made D apps) (h' : Dk.Made D' (apps ++ [o])) (hs : D'.sure = D.sure) : ∀ k, k ≤ apps.length → Dk.stateAt D' k = Dk.stateAt D k := fun k hk => by
  unfold Dk.stateAt
  rw [hs, h'.loose, h.loose, List.map_append, List.take_append_of_le_length (by simpa using hk)]
theorem stateAt_now {D : Dk.St} {apps : List Dop} (h : Dk.Made D apps) (hok : Dk.Ok D) : Dk.stateAt D apps.length = D.now := by
  unfold Dk.stateAt
  rw [hok.now, List.take_of_length_le (by rw [h.loose, List.length_map]; exact Nat.le_refl _)]

/-- One row of one state: what stands at first, and behind a Sync. -/
theorem rows_one {w wr : World} {d : Nat} {D : Dk.St} {X : Nat → Prop} {g cap : Nat} (hd : DkK w wr d D X) (hm : Dk.Made D []) (hX : X g) (hw : w.heap.size ≤ g) (hown : wr.ownsRow 0 9 1 (.slice (some ⟨g, 0, none⟩) 16 cap) 16 (strV D.now)) :
    KdAt w (wr.alloc (.cells #[.slice (some ⟨g, 0, none⟩) 16 cap] 49)) d D [] (.slice (some ⟨wr.heap.size, 0, none⟩) 1 1) (.slice none 0 0) X := by
  have hok := hd.live.ok
  have hgl := (hd.less (K' := fun b => b = g) (fun b e => e ▸ hX))
  have hws := hd.bel.size
  obtain ⟨F, h1, h4, h6, h7⟩ := hd
  have hglt := (h7 g hX).1
  refine ⟨⟨[.slice (some ⟨g, 0, none⟩) 16 cap], ?_, rfl, ?_, World.ownsRow_nil _ _ _ _, fun b hb => ?_, fun k v hv => ?_⟩, hm⟩
  · have hd2 : DkK w wr d D X := ⟨F, h1, h4, h6, h7⟩
    refine (hd2.grow (bel_alloc wr _)).less (fun b hb => ?_)
    rcases hb with (hb | hb | ⟨v, hv, hb⟩) | hb
    · simp only [Value.ownBlock, Option.some.injEq] at hb
      exact .inr ⟨by omega, by simp; omega⟩
    · cases hb
    · rw [List.mem_singleton] at hv
      subst hv
      simp only [Value.ownBlock, Option.some.injEq] at hb
      exact .inl (hb ▸ hX)
    · exact .inl hb
  · refine ⟨rfl, .inr ⟨wr.heap.size, 1, #[.slice (some ⟨g, 0, none⟩) 16 cap], rfl, Nat.zero_le _, heap_alloc_new wr _, Nat.le_refl _, by unfold maxLen; omega, rfl, rfl⟩⟩
  · rcases hb with hb | hb | ⟨v, hv, hb⟩
    · simp only [Value.ownBlock, Option.some.injEq] at hb
      omega
    · cases hb
    · rw [List.mem_singleton] at hv
      subst hv
      simp only [Value.ownBlock, Option.some.injEq] at hb
      omega
  · cases k with
    | zero =>
      simp only [List.getElem?_cons_zero, Option.some.injEq] at hv
      subst hv
      refine ⟨g, cap, rfl, ?_⟩
      have hst : Dk.stateAt D 0 = D.now := stateAt_now hm hok
      rw [hst]
      refine own_kept hown (fun b hb => ?_)
      simp only [Value.ownBlock, Option.some.injEq] at hb
      subst hb
      exact Below.heap_alloc _ _ _ hglt
    | succ k => simp at hv

/-- Behind a change, ahead of its row. -/
structure Half (w wr : World) (d : Nat) (D : Dk.St) (apps : List Dop) (x : Dop) (s11 s12 : Value) (g : Nat) : Prop where
  ex : ∃ vss, DkK w wr d D (fun b => Kof s11 s12 vss b ∨ b = g) ∧ Rows w wr (Dk.stateAt D) apps vss s11 s12
  made : Dk.Made D (apps ++ [x])
  cells : wr.heap[g]? = some (.cells #[.int .i64 x.kind, .int .i64 x.f, .int .i64 x.n, .int .i64 x.m, .string x.s] 42)

theorem KdAt.alloc {w wr : World} {d : Nat} {D : Dk.St} {apps : List Dop} {s11 s12 : Value} (h : KdAt w wr d D apps s11 s12 (fun _ => False)) (o : Obj) : KdAt w (wr.alloc o) d D apps s11 s12 (fun b => b = wr.heap.size) := by
  obtain ⟨vss, h1, h2⟩ := h.ex
  have hk : ∀ b, Kof s11 s12 vss b → b < wr.heap.size := fun b hb => by obtain ⟨F, _, _, _, h7⟩ := h1; exact (h7 b (.inl hb)).1
  refine ⟨⟨vss, (h1.grow (bel_alloc wr o)).less (fun b hb => ?_), h2.kept (fun b hb => Below.heap_alloc _ _ _ (hk b hb))⟩, h.made⟩
  rcases hb with hb | hb
  · exact .inl (.inl hb)
  · exact .inr ⟨by omega, by rw [hb]; simp⟩
theorem KdAt.drop {w wr : World} {d : Nat} {D : Dk.St} {apps : List Dop} {s11 s12 : Value} {X : Nat → Prop} (h : KdAt w wr d D apps s11 s12 X) : KdAt w wr d D apps s11 s12 (fun _ => False) := by
  obtain ⟨vss, h1, h2⟩ := h.ex
  exact ⟨⟨vss, h1.less (fun b hb => hb.elim .inl (fun h => h.elim)), h2⟩, h.made⟩

/-- What a change leaves. -/
theorem half_of {w wr w' : World} {d : Nat} {D D' : Dk.St} {apps : List Dop} {x : Dop} {s11 s12 : Value} {g : Nat} {vss : List Value} (hR : Rows w wr (Dk.stateAt D) apps vss s11 s12) (hm : Dk.Made D apps) (hm' : Dk.Made D' (apps ++ [x])) (hs : D'.sure = D.sure)
    (h1 : DkK w w' d D' (fun b => Kof s11 s12 vss b ∨ b = g)) (hk : ∀ b, Kof s11 s12 vss b ∨ b = g → w'.heap[b]? = wr.heap[b]?) (hx : wr.heap[g]? = some (.cells #[.int .i64 x.kind, .int .i64 x.f, .int .i64 x.n, .int .i64 x.m, .string x.s] 42)) : Half w w' d D' apps x s11 s12 g :=
  ⟨⟨vss, h1, (hR.kept (fun b hb => hk b (.inl hb))).st (stateAt_more hm hm' hs)⟩, hm', (hk g (.inr rfl)).trans hx⟩
theorem kd_of {w wr w' : World} {d : Nat} {D : Dk.St} {apps : List Dop} {s11 s12 : Value} {g : Nat} {vss : List Value} (hR : Rows w wr (Dk.stateAt D) apps vss s11 s12) (hm : Dk.Made D apps)
    (h1 : DkK w w' d D (fun b => Kof s11 s12 vss b ∨ b = g)) (hk : ∀ b, Kof s11 s12 vss b ∨ b = g → w'.heap[b]? = wr.heap[b]?) : KdAt w w' d D apps s11 s12 (fun b => b = g) :=
  ⟨⟨vss, h1, hR.kept (fun b hb => hk b (.inl hb))⟩, hm⟩


theorem Half.lo {w wr : World} {d : Nat} {D : Dk.St} {apps : List Dop} {x : Dop} {s11 s12 : Value} {g : Nat} (h : Half w wr d D apps x s11 s12 g) : ∀ b, s11.ownBlock = some b → b < wr.heap.size := fun b hb => by
  obtain ⟨vss, ⟨F, _, _, _, h7⟩, h2⟩ := h.ex
  exact (h7 b (.inl (.inl hb))).1
theorem Half.grow {w wr w' : World} {d : Nat} {D : Dk.St} {apps : List Dop} {x : Dop} {s11 s12 : Value} {g : Nat} (h : Half w wr d D apps x s11 s12 g) (hb : Below wr.heap.size wr w') : Half w w' d D apps x s11 s12 g := by
  obtain ⟨vss, h1, h2⟩ := h.ex
  have hk : ∀ b, Kof s11 s12 vss b ∨ b = g → b < wr.heap.size := fun b hb => by obtain ⟨F, _, _, _, h7⟩ := h1; exact (h7 b hb).1
  exact ⟨⟨vss, (h1.grow hb).less (fun b h => .inl h), h2.kept (fun b h => hb.block b (hk b (.inl h)))⟩, h.made, (hb.block g (hk g (.inr rfl))).trans h.cells⟩

/-- The row of the new state stands. -/
structure Half2 (w wr : World) (d : Nat) (D : Dk.St) (apps : List Dop) (x : Dop) (s11 s12 : Value) (g g0 cap0 : Nat) : Prop where
  ex : ∃ vss, DkK w wr d D (fun b => (Kof s11 s12 vss b ∨ b = g) ∨ b = g0) ∧ Rows w wr (Dk.stateAt D) apps vss s11 s12
  made : Dk.Made D (apps ++ [x])
  cells : wr.heap[g]? = some (.cells #[.int .i64 x.kind, .int .i64 x.f, .int .i64 x.n, .int .i64 x.m, .string x.s] 42)
  row : wr.ownsRow 0 9 1 (.slice (some ⟨g0, 0, none⟩) 16 cap0) 16 (strV (Dk.stateAt D (apps.length + 1)))
  lo : w.heap.size ≤ g0
  far : ∀ b, s11.ownBlock = some b → b ≠ g
theorem Half2.grow {w wr w' : World} {d : Nat} {D : Dk.St} {apps : List Dop} {x : Dop} {s11 s12 : Value} {g g0 cap0 : Nat} (h : Half2 w wr d D apps x s11 s12 g g0 cap0) (hb : Below wr.heap.size wr w') : Half2 w w' d D apps x s11 s12 g g0 cap0 := by
  obtain ⟨vss, h1, h2⟩ := h.ex
  have hk : ∀ b, (Kof s11 s12 vss b ∨ b = g) ∨ b = g0 → b < wr.heap.size := fun b hb => by obtain ⟨F, _, _, _, h7⟩ := h1; exact (h7 b hb).1
  refine ⟨⟨vss, (h1.grow hb).less (fun b h => .inl h), h2.kept (fun b h => hb.block b (hk b (.inl (.inl h))))⟩, h.made, (hb.block g (hk g (.inl (.inr rfl)))).trans h.cells, own_kept h.row (fun b e => ?_), h.lo, h.far⟩
  simp only [Value.ownBlock, Option.some.injEq] at e
  subst e
  exact hb.block _ (hk _ (.inr rfl))

/-- The row of states has its new one; the call itself is to come. -/
structure Half3 (w wr : World) (d : Nat) (D : Dk.St) (apps : List Dop) (x : Dop) (s11 s12 : Value) (g : Nat) : Prop where
  ex : ∃ vss, DkK w wr d D (fun b => Kof s11 s12 vss b ∨ b = g) ∧ vss.length = apps.length + 2 ∧ wr.ownsRow 0 49 1 s11 vss.length vss ∧ wr.ownsRow 0 42 5 s12 apps.length (dopCells apps) ∧ (∀ b, Kof s11 s12 vss b → w.heap.size ≤ b) ∧ ∀ k v, vss[k]? = some v → ∃ g cap, v = .slice (some ⟨g, 0, none⟩) 16 cap ∧ wr.ownsRow 0 9 1 v 16 (strV (Dk.stateAt D k))
  made : Dk.Made D (apps ++ [x])
theorem Half3.grow {w wr w' : World} {d : Nat} {D : Dk.St} {apps : List Dop} {x : Dop} {s11 s12 : Value} {g : Nat} (h : Half3 w wr d D apps x s11 s12 g) (hb : Below wr.heap.size wr w') : Half3 w w' d D apps x s11 s12 g := by
  obtain ⟨vss, h1, h2, h3, h4, h5, h6⟩ := h.ex
  have hk : ∀ b, Kof s11 s12 vss b → w'.heap[b]? = wr.heap[b]? := fun b h => hb.block b (by obtain ⟨F, _, _, _, h7⟩ := h1; exact (h7 b (.inl h)).1)
  refine ⟨⟨vss, (h1.grow hb).less (fun b h => .inl h), h2, own_kept h3 (fun b e => hk b (.inl e)), own_kept h4 (fun b e => hk b (.inr (.inl e))), h5, fun k v hv => ?_⟩, h.made⟩
  obtain ⟨g, cap, e1, e2⟩ := h6 k v hv
  exact ⟨g, cap, e1, own_kept e2 (fun b e => hk b (.inr (.inr ⟨v, List.mem_of_getElem? hv, e⟩)))⟩

theorem infoRow : (Try.prog.info? 49).map (fun i => (i.zero, i.size, i.bytes)) = some (some (.slice none 0 0), 1, 24) := by kernel_rfl
theorem infoDop : (Try.prog.info? 42).map (fun i => (i.zero, i.size, i.bytes)) = some (some (.agg #[.int .i64 0, .int .i64 0, .int .i64 0, .int .i64 0, .string ⟨#[]⟩]), 5, 48) := by kernel_rfl

theorem grown_only {w w' : World} {r : Option Nat} (h : w.grownBy w' r) : Only (fun b => r = some b) w w' := ⟨h.os, h.tape, h.output, h.size, fun k hk hs => h.block k hk (fun e => hs e.symm)⟩

theorem own_type {w : World} {base : Nat} {e : TypeId} {size : Nat} {v : Value} {n : Nat} {xs : List Value} (h : w.ownsRow base e size v n xs) {b : Nat} (hb : v.ownBlock = some b) : ∃ cur, w.heap[b]? = some (.cells cur e) := by
  rcases h.2 with ⟨h, -⟩ | ⟨g', cap', cur, hv, h2, h3, _⟩
  · cases v <;> first | (cases hb; done) | (cases h; done) | skip
    all_goals simp_all [Value.ownBlock]
  · subst hv
    simp only [Value.ownBlock, Option.some.injEq] at hb
    subst hb
    exact ⟨cur, h3⟩

theorem step_states {ops : Array Oper} {o : Oper} {a : Act} {u : World} {K : Act → World → Prop} {Q : Exit → Act → World → Prop} {E : Prop} (hgd : o.guard = none) (s x : Operand)
    (ho : o.op = .call { callee := .builtin .append, args := #[s, x], argTypes := #[51, 51] })
    {w : World} {d : Nat} {D : Dk.St} {apps : List Dop} {y : Dop} {t11 t12 : Value} {g g0 cap0 : Nat} (h2 : Half2 w u d D apps y t11 t12 g g0 cap0) (hn : apps.length ≤ 1000)
    (hs : a.eval s = t11) {lb c : Nat} (hx : a.eval x = .slice (some ⟨lb, 0, none⟩) 1 c) (hlb : u.heap[lb]? = some (.cells #[.slice (some ⟨g0, 0, none⟩) 16 cap0] 49))
    (h : ∀ g1 c1 w', Half3 w w' d D apps y (.slice (some ⟨g1, 0, none⟩) (apps.length + 2) c1) t12 g → (∀ b, b < u.heap.size → t11.ownBlock ≠ some b → w'.heap[b]? = u.heap[b]?) → w'.heap[g]? = some (.cells #[.int .i64 y.kind, .int .i64 y.f, .int .i64 y.n, .int .i64 y.m, .string y.s] 42) → K (a.put o.dst (.slice (some ⟨g1, 0, none⟩) (apps.length + 2) c1)) w') :
    if Region.wanted o (yielded ops a.tmps) = true then Oper.wp Try.prog o a u K Q else E := by
  obtain ⟨i0, hi0, hz0, hz1, hz2⟩ := info_parts infoRow
  obtain ⟨vss, h1, hr⟩ := h2.ex
  have hl := hr.len
  have hkn : ∀ b, (Kof t11 t12 vss b ∨ b = g) ∨ b = g0 → b < u.heap.size := fun b hb => by obtain ⟨F, _, _, _, h7⟩ := h1; exact (h7 b hb).1
  refine step_append_lies (P := Try.prog) u hgd s x _ ho 0 49 i0 (.slice none 0 0) 1 24 Try.underlying51 hi0 hz0 hz1 hz2 rfl (by decide) t11 vss.length vss hs hr.row1 ⟨lb, 0, none⟩ 1 c [.slice (some ⟨g0, 0, none⟩) 16 cap0] hx rfl (World.news_of_block hlb) (by simp [Value.oneCell']) (by decide) (by unfold maxLen; omega) (by omega) (Nat.zero_le _) _ rfl ?_
  intro g1 c1 w' hown hgrow hat hlt
  rw [show vss.length + 1 = apps.length + 2 by omega] at hown ⊢
  have hws := h1.bel.size
  have ho := grown_only hgrow
  have hkeep : ∀ b, b < u.heap.size → t11.ownBlock ≠ some b → w'.heap[b]? = u.heap[b]? := fun b hb hne => ho.block b hb (fun e => hne e)
  have hty : ∀ b, t11.ownBlock = some b → ∃ cur, u.heap[b]? = some (.cells cur 49) := fun b hb => own_type hr.row1 hb
  have hn12 : ∀ b, t12.ownBlock = some b → t11.ownBlock ≠ some b := fun b hb e => by
    obtain ⟨c1, h1⟩ := hty b e
    obtain ⟨c2, h2⟩ := own_type hr.row2 hb
    rw [h1] at h2
    simp at h2
  have hnv : ∀ v n xs, u.ownsRow 0 9 1 v n xs → ∀ b, v.ownBlock = some b → t11.ownBlock ≠ some b := fun v n xs hv b hb e => by
    obtain ⟨c1, h1⟩ := hty b e
    obtain ⟨c2, h2⟩ := own_type hv hb
    rw [h1] at h2
    simp at h2
  have hng : t11.ownBlock ≠ some g := fun e => h2.far g e rfl
  refine h g1 c1 w' ⟨⟨vss ++ [.slice (some ⟨g0, 0, none⟩) 16 cap0], (h1.only ho (fun b e => ⟨.inl (.inl (.inl e)), hr.own b (.inl e)⟩)).less (fun b hb => ?_), by simp; omega, ?_, ?_, fun b hb => ?_, fun k v hv => ?_⟩, h2.made⟩ hkeep ?_
  · rcases hb with (hb | hb | ⟨v, hv, hb⟩) | hb
    · simp only [Value.ownBlock, Option.some.injEq] at hb
      subst hb
      rcases hat with e | e
      · exact .inl (.inl (.inl (.inl e)))
      · exact .inr ⟨by omega, hlt⟩
    · exact .inl (.inl (.inl (.inr (.inl hb))))
    · rcases List.mem_append.1 hv with hv | hv
      · exact .inl (.inl (.inl (.inr (.inr ⟨v, hv, hb⟩))))
      · rw [List.mem_singleton] at hv
        subst hv
        simp only [Value.ownBlock, Option.some.injEq] at hb
        exact .inl (.inr hb.symm)
    · exact .inl (.inl (.inr hb))
  · rw [List.length_append, List.length_singleton, show vss.length + 1 = apps.length + 2 by omega]
    exact hown
  · exact own_kept hr.row2 (fun b hb => hkeep b (hkn b (.inl (.inl (.inr (.inl hb))))) (hn12 b hb))
  · rcases hb with hb | hb | ⟨v, hv, hb⟩
    · simp only [Value.ownBlock, Option.some.injEq] at hb
      subst hb
      rcases hat with e | e
      · exact hr.own _ (.inl e)
      · omega
    · exact hr.own _ (.inr (.inl hb))
    · rcases List.mem_append.1 hv with hv | hv
      · exact hr.own _ (.inr (.inr ⟨v, hv, hb⟩))
      · rw [List.mem_singleton] at hv
        subst hv
        simp only [Value.ownBlock, Option.some.injEq] at hb
        subst hb
        exact h2.lo
  · by_cases hk : k < vss.length
    · rw [List.getElem?_append_left hk] at hv
      obtain ⟨gv, cv, e1, e2⟩ := hr.state k v hv
      exact ⟨gv, cv, e1, own_kept e2 (fun b hb => hkeep b (hkn b (.inl (.inl (.inr (.inr ⟨v, List.mem_of_getElem? hv, hb⟩))))) (hnv _ _ _ e2 b hb))⟩
    · have hlt2 := (List.getElem?_eq_some_iff.1 hv).1
      rw [List.length_append, List.length_singleton] at hlt2
      have hke : k = apps.length + 1 := by omega
      rw [List.getElem?_append_right (by omega), show k - vss.length = 0 by omega, List.getElem?_cons_zero, Option.some.injEq] at hv
      subst hv
      subst hke
      refine ⟨g0, cap0, rfl, own_kept h2.row (fun b hb => hkeep b (hkn b ?_) (hnv _ _ _ h2.row b hb))⟩
      simp only [Value.ownBlock, Option.some.injEq] at hb
      exact .inr hb.symm
  · exact (hkeep g (hkn g (.inl (.inr rfl))) hng).trans h2.cells

theorem step_apps {ops : Array Oper} {o : Oper} {a : Act} {u : World} {K : Act → World → Prop} {Q : Exit → Act → World → Prop} {E : Prop} (hgd : o.guard = none) (s x : Operand)
    (ho : o.op = .call { callee := .builtin .append, args := #[s, x], argTypes := #[36, 36] })
    {w : World} {d : Nat} {D : Dk.St} {apps : List Dop} {y : Dop} {t11 t12 : Value} {g : Nat} (h3 : Half3 w u d D apps y t11 t12 g) (hn : apps.length ≤ 1000)
    (hs : a.eval s = t12) {lb c : Nat} (hx : a.eval x = .slice (some ⟨lb, 0, none⟩) 1 c) (hlb : u.heap[lb]? = some (.cells #[.int .i64 y.kind, .int .i64 y.f, .int .i64 y.n, .int .i64 y.m, .string y.s] 42))
    (h : ∀ g1 c1 w', KdAt w w' d D (apps ++ [y]) t11 (.slice (some ⟨g1, 0, none⟩) (apps.length + 1) c1) (fun _ => False) → K (a.put o.dst (.slice (some ⟨g1, 0, none⟩) (apps.length + 1) c1)) w') :
    if Region.wanted o (yielded ops a.tmps) = true then Oper.wp Try.prog o a u K Q else E := by
  obtain ⟨i0, hi0, hz0, hz1, hz2⟩ := info_parts infoDop
  obtain ⟨vss, h1, hl, hr1, hr2, hro, hst⟩ := h3.ex
  have hkn : ∀ b, Kof t11 t12 vss b → b < u.heap.size := fun b hb => by obtain ⟨F, _, _, _, h7⟩ := h1; exact (h7 b (.inl hb)).1
  refine step_append_lies (P := Try.prog) u hgd s x _ ho 0 42 i0 (.agg #[.int .i64 0, .int .i64 0, .int .i64 0, .int .i64 0, .string ⟨#[]⟩]) 5 48 Try.underlying36 hi0 hz0 hz1 hz2 rfl (by decide) t12 apps.length (dopCells apps) hs hr2 ⟨lb, 0, none⟩ 1 c [.int .i64 y.kind, .int .i64 y.f, .int .i64 y.n, .int .i64 y.m, .string y.s] hx rfl (World.news_of_block hlb) (by simp [Value.oneCell']) (by decide) (by unfold maxLen; omega) (by omega) (Nat.zero_le _) _ rfl ?_
  intro g1 c1 w' hown hgrow hat hlt
  have hws := h1.bel.size
  have ho := grown_only hgrow
  have hkeep : ∀ b, b < u.heap.size → t12.ownBlock ≠ some b → w'.heap[b]? = u.heap[b]? := fun b hb hne => ho.block b hb (fun e => hne e)
  have hty : ∀ b, t12.ownBlock = some b → ∃ cur, u.heap[b]? = some (.cells cur 42) := fun b hb => own_type hr2 hb
  have hn11 : ∀ b, t11.ownBlock = some b → t12.ownBlock ≠ some b := fun b hb e => by
    obtain ⟨c1, h1⟩ := hty b e
    obtain ⟨c2, h2⟩ := own_type hr1 hb
    rw [h1] at h2
    simp at h2
  have hnv : ∀ v n xs, u.ownsRow 0 9 1 v n xs → ∀ b, v.ownBlock = some b → t12.ownBlock ≠ some b := fun v n xs hv b hb e => by
    obtain ⟨c1, h1⟩ := hty b e
    obtain ⟨c2, h2⟩ := own_type hv hb
    rw [h1] at h2
    simp at h2
  refine h g1 c1 w' ⟨⟨vss, (h1.only ho (fun b e => ⟨.inl (.inr (.inl e)), hro b (.inr (.inl e))⟩)).less (fun b hb => ?_), by simp; omega, ?_, ?_, fun b hb => ?_, fun k v hv => ?_⟩, h3.made⟩
  · rcases hb with (hb | hb | hb) | hb
    · exact .inl (.inl (.inl hb))
    · simp only [Value.ownBlock, Option.some.injEq] at hb
      subst hb
      rcases hat with e | e
      · exact .inl (.inl (.inr (.inl e)))
      · exact .inr ⟨by omega, hlt⟩
    · exact .inl (.inl (.inr (.inr hb)))
    · exact hb.elim
  · exact own_kept hr1 (fun b hb => hkeep b (hkn b (.inl hb)) (hn11 b hb))
  · rw [List.length_append, List.length_singleton, show dopCells (apps ++ [y]) = dopCells apps ++ [.int .i64 y.kind, .int .i64 y.f, .int .i64 y.n, .int .i64 y.m, .string y.s] by simp [dopCells]; rfl]
    exact hown
  · rcases hb with hb | hb | hb
    · exact hro _ (.inl hb)
    · simp only [Value.ownBlock, Option.some.injEq] at hb
      subst hb
      rcases hat with e | e
      · exact hro _ (.inr (.inl e))
      · omega
    · exact hro _ (.inr (.inr hb))
  · obtain ⟨gv, cv, e1, e2⟩ := hst k v hv
    exact ⟨gv, cv, e1, own_kept e2 (fun b hb => hkeep b (hkn b (.inr (.inr ⟨v, List.mem_of_getElem? hv, hb⟩))) (hnv _ _ _ e2 b hb))⟩

end Go.Proofs.Ytdnjmihalmhddaa
