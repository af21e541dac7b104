/-
  An input, and blocks that are none of its: each call leaves those as they are.
-/
import Derived.Test.YtllecjhfbojgcaaInMap
import Derived.Test.YtllecjhfbojgcaaInGrows
import Derived.Test.YtllecjhfbojgcaaFr
namespace Go.Proofs.Ytllecjhfbojgcaa
open Go.RowKit
set_option maxRecDepth 20000

def InK (w0 : Fr) (w : World) (n d l0 l1 : Nat) (lv : Value) (S : InSt) (K : Nat → Prop) : Prop :=
  ∃ F G0 G1 N, InAt w0 w n d l0 l1 lv S F G0 G1 N ∧ ∀ k, K k → k < w.heap.size ∧ ¬ F k ∧ ¬ G0 k ∧ ¬ G1 k ∧ ¬ N k

theorem InK.live {w0 : Fr} {w : World} {n d l0 l1 : Nat} {lv : Value} {S : InSt} {K : Nat → Prop} (h : InK w0 w n d l0 l1 lv S K) : InLive w0 w n d l0 l1 lv S := by
  obtain ⟨F, G0, G1, N, h, -⟩ := h
  exact ⟨F, G0, G1, N, h⟩
theorem InK.old {w0 : Fr} {w : World} {n d l0 l1 : Nat} {lv : Value} {S : InSt} {K : Nat → Prop} (h : InK w0 w n d l0 l1 lv S K) : Since w0 w := h.live.old
theorem InLive.keep {w0 : Fr} {w : World} {n d l0 l1 : Nat} {lv : Value} {S : InSt} (h : InLive w0 w n d l0 l1 lv S) : InK w0 w n d l0 l1 lv S (fun _ => False) := by
  obtain ⟨F, G0, G1, N, h⟩ := h
  exact ⟨F, G0, G1, N, h, fun _ h => h.elim⟩
theorem InK.less {w0 : Fr} {w : World} {n d l0 l1 : Nat} {lv : Value} {S : InSt} {K K' : Nat → Prop} (h : InK w0 w n d l0 l1 lv S K) (hk : ∀ k, K' k → K k) : InK w0 w n d l0 l1 lv S K' := by
  obtain ⟨F, G0, G1, N, h, h2⟩ := h
  exact ⟨F, G0, G1, N, h, fun k hk' => h2 k (hk k hk')⟩
theorem InK.only {w0 : Fr} {w w' : World} {n d l0 l1 : Nat} {lv : Value} {S : InSt} {K P : Nat → Prop} (h : InK w0 w n d l0 l1 lv S K) (ho : Only P w w') (hP : ∀ k, P k → K k ∧ ¬ w0.K k) : InK w0 w' n d l0 l1 lv S (fun k => K k ∨ (w.heap.size ≤ k ∧ k < w'.heap.size)) := by
  obtain ⟨F, G0, G1, N, h, h2⟩ := h
  have hs := ho.size
  refine ⟨F, G0, G1, N, h.keep ho (fun k hk => ?_), fun k hk => ?_⟩
  · obtain ⟨a, b⟩ := hP k hk
    obtain ⟨c1, c2, c3, c4, c5⟩ := h2 k a
    exact ⟨c2, c3, c4, c5, b⟩
  · rcases hk with hk | ⟨hk, hk'⟩
    · obtain ⟨c1, c2⟩ := h2 k hk
      exact ⟨by omega, c2⟩
    · exact ⟨hk', fun e => by have := h.disk.lt k e; omega, fun e => by have := h.log0.lt k e; omega, fun e => by have := h.log1.lt k e; omega, fun e => by have := h.lt k e; omega⟩
theorem InK.grow {w0 : Fr} {w w' : World} {n d l0 l1 : Nat} {lv : Value} {S : InSt} {K : Nat → Prop} (h : InK w0 w n d l0 l1 lv S K) (hb : Below w.heap.size w w') : InK w0 w' n d l0 l1 lv S (fun k => K k ∨ (w.heap.size ≤ k ∧ k < w'.heap.size)) :=
  h.only (P := fun _ => False) (Only.below hb) (fun _ h => h.elim)
theorem InK.push {w0 : Fr} {w w' : World} {n d l0 l1 g : Nat} {lv : Value} {S : InSt} {K : Nat → Prop} {v : Value} {o : Obj} (h : InK w0 w n d l0 l1 lv S K) (hv : ∀ b, v.ownBlock = some b → K b ∧ ¬ w0.K b)
    (hg : (w.alloc o).grownBy w' v.ownBlock) (hat : v.ownBlock = some g ∨ (w.alloc o).heap.size ≤ g) (hlt : g < w'.heap.size) (K' : Nat → Prop) (hK : ∀ k, K' k → K k) : InK w0 w' n d l0 l1 lv S (fun k => K' k ∨ k = g) := by
  have hs : (w.alloc o).heap.size = w.heap.size + 1 := by simp
  have h1 := h.grow (bel_alloc w o)
  have ho : Only (fun b => v.ownBlock = some b) (w.alloc o) w' := ⟨hg.os, hg.tape, hg.output, hg.size, fun k hk hn => hg.block k hk (fun e => hn e.symm)⟩
  refine (h1.only ho (fun k hk => ⟨.inl (hv k hk).1, (hv k hk).2⟩)).less (fun k hk => ?_)
  rcases hk with hk | rfl
  · exact .inl (.inl (hK k hk))
  · rcases hat with h | h
    · exact .inl (.inl (hv _ h).1)
    · exact .inr ⟨h, hlt⟩

/-- A frame that has these blocks too, and the way back out of it. -/
theorem InAt.back {w0 : Fr} {w w' : World} {hs : Since w0 w} {K : Nat → Prop} {hK : ∀ k, K k → k < w.heap.size} {n d l0 l1 : Nat} {lv : Value} {S : InSt} {F G0 G1 N : Nat → Prop} (h : InAt (w0.more hs K hK) w' n d l0 l1 lv S F G0 G1 N) :
    InK w0 w' n d l0 l1 lv S K ∧ (∀ k, K k → w'.heap[k]? = w.heap[k]?) ∧ w.heap.size ≤ w'.heap.size := by
  obtain ⟨h1, h2⟩ := Since.more h.old
  have hsz : w.heap.size ≤ w'.heap.size := h.old.size
  refine ⟨⟨F, G0, G1, N, ⟨h1, h.disk, h.log0, h.log1, h.cell, h.row, h.mem, h.own, h.lt, h.f0, h.f1, h.fn, h.g01, h.g0n, h.g1n, fun k hk e => h.new k hk (.inl e)⟩, fun k hk => ?_⟩, h2, hsz⟩
  have hk2 := hK k hk
  exact ⟨by omega, fun e => h.new k (.inl e) (.inr hk), fun e => h.new k (.inr (.inl e)) (.inr hk), fun e => h.new k (.inr (.inr (.inl e))) (.inr hk), fun e => h.new k (.inr (.inr (.inr e))) (.inr hk)⟩
theorem InK.call {w0 : Fr} {w : World} {n d l0 l1 : Nat} {lv : Value} {S : InSt} {K : Nat → Prop} (h : InK w0 w n d l0 l1 lv S K) :
    ∃ f : Fr, InLive f w n d l0 l1 lv S ∧ ∀ w' n' l0' l1' lv' S', InLive f w' n' d l0' l1' lv' S' → InK w0 w' n' d l0' l1' lv' S' K ∧ (∀ k, K k → w'.heap[k]? = w.heap[k]?) ∧ w.heap.size ≤ w'.heap.size := by
  obtain ⟨F, G0, G1, N, h, h2⟩ := h
  refine ⟨w0.more h.old K (fun k hk => (h2 k hk).1), ⟨F, G0, G1, N, Since.refl _ _ _, h.disk, h.log0, h.log1, h.cell, h.row, h.mem, h.own, h.lt, h.f0, h.f1, h.fn, h.g01, h.g0n, h.g1n, fun k hk e => ?_⟩, fun w' n' l0' l1' lv' S' h' => ?_⟩
  · rcases e with e | e
    · exact h.new k hk e
    · obtain ⟨-, c2, c3, c4, c5⟩ := h2 k e
      rcases hk with hk | hk | hk | hk
      · exact c2 hk
      · exact c3 hk
      · exact c4 hk
      · exact c5 hk
  · obtain ⟨F', G0', G1', N', h'⟩ := h'
    exact h'.back

/-- Add whatever the part. -/
theorem ink_add {w0 : Fr} {w : World} {n d l0 l1 : Nat} {lv : Value} {S : InSt} {j : Nat} {K : Nat → Prop} (h : InK w0 w n d l0 l1 lv S K) (hf : InFit j S) (hj : j < 500) (x : InR) (hk : Cl.In64 x.key) (hv : Cl.In64 x.val) :
    Calls Try.prog 15 #[ptr n 0, x.val'] w fun e w' => ∃ lv', e = .returned (.int .i64 (S.add x).1) ∧ InK w0 w' n d l0 l1 lv' (S.add x).2 K ∧ (∀ k, K k → w'.heap[k]? = w.heap[k]?) ∧ w.heap.size ≤ w'.heap.size := by
  obtain ⟨f, h1, h2⟩ := h.call
  refine (in_add h1 hf hj x hk hv).mono ?_
  rintro e w' ⟨lv', h3, h4⟩
  exact ⟨lv', h3, h2 _ _ _ _ _ _ h4⟩

/-- A disk, and blocks that are none of its. -/
def LiveK (w0 : Fr) (w : World) (d : Nat) (D : Dk.St) (K : Nat → Prop) : Prop := ∃ F, DiskAt w d D F ∧ (∀ k, F k → ¬ w0.K k) ∧ Since w0 w ∧ ∀ k, K k → k < w.heap.size ∧ ¬ F k
theorem LiveK.less {w0 : Fr} {w : World} {d : Nat} {D : Dk.St} {K K' : Nat → Prop} (h : LiveK w0 w d D K) (hk : ∀ k, K' k → K k) : LiveK w0 w d D K' := by
  obtain ⟨F, h1, h2, h3, h4⟩ := h
  exact ⟨F, h1, h2, h3, fun k e => h4 k (hk k e)⟩
theorem LiveK.old {w0 : Fr} {w : World} {d : Nat} {D : Dk.St} {K : Nat → Prop} (h : LiveK w0 w d D K) : Since w0 w := by
  obtain ⟨F, h1, h2, h3, h4⟩ := h
  exact h3
theorem LiveK.ok {w0 : Fr} {w : World} {d : Nat} {D : Dk.St} {K : Nat → Prop} (h : LiveK w0 w d D K) : Dk.Ok D := by
  obtain ⟨F, h1, h2, h3, h4⟩ := h
  exact h1.ok
theorem LiveK.grow {w0 : Fr} {w w' : World} {d : Nat} {D : Dk.St} {K : Nat → Prop} (h : LiveK w0 w d D K) (hb : Below w.heap.size w w') : LiveK w0 w' d D (fun k => K k ∨ (w.heap.size ≤ k ∧ k < w'.heap.size)) := by
  obtain ⟨F, h1, h2, h3, h4⟩ := h
  have hs := hb.size
  refine ⟨F, h1.below hb, h2, h3.below hb, fun k hk => ?_⟩
  rcases hk with hk | ⟨hk, hk'⟩
  · have := h4 k hk
    exact ⟨by omega, this.2⟩
  · exact ⟨hk', fun e => by have := h1.lt k e; omega⟩
theorem LiveK.call {w0 : Fr} {w : World} {d : Nat} {D : Dk.St} {K : Nat → Prop} (h : LiveK w0 w d D K) :
    ∃ f : Fr, LiveF f w d D ∧ ∀ w' n' l0' l1' lv' S', InLive f w' n' d l0' l1' lv' S' → InK w0 w' n' d l0' l1' lv' S' K ∧ (∀ k, K k → w'.heap[k]? = w.heap[k]?) ∧ w.heap.size ≤ w'.heap.size := by
  obtain ⟨F, h1, h2, h3, h4⟩ := h
  refine ⟨w0.more h3 K (fun k hk => (h4 k hk).1), ⟨F, h1, fun k hk e => e.elim (h2 k hk) (fun e => (h4 k e).2 hk), Since.refl _ _ _⟩, fun w' n' l0' l1' lv' S' h' => ?_⟩
  obtain ⟨F', G0', G1', N', h'⟩ := h'
  exact h'.back
theorem lk_crash {w0 : Fr} {w : World} {d : Nat} {D : Dk.St} {K : Nat → Prop} (h : LiveK w0 w d D K) (a b : Int) :
    Calls Try.prog 20 #[ptr d 0, .int .i64 a, .int .i64 b] w fun e w' => e = .returned (.tuple #[]) ∧ LiveK w0 w' d (Dk.crash D a b) K ∧ (∀ k, K k → w'.heap[k]? = w.heap[k]?) ∧ w.heap.size ≤ w'.heap.size := by
  obtain ⟨F, h1, h2, h3, h4⟩ := h
  refine (crash_any w d D F h1 a b).mono ?_
  rintro e w' ⟨rfl, ho, hd⟩
  have hs := ho.size
  exact ⟨rfl, ⟨F, hd, h2, h3.only ho h2, fun k hk => ⟨by have := (h4 k hk).1; omega, (h4 k hk).2⟩⟩, fun k hk => ho.block k (h4 k hk).1 (h4 k hk).2, hs⟩
theorem InK.disk {w0 : Fr} {w : World} {n d l0 l1 : Nat} {lv : Value} {S : InSt} {K : Nat → Prop} (h : InK w0 w n d l0 l1 lv S K) : LiveK w0 w d S.D (fun k => K k ∨ k = n ∨ lv.ownBlock = some k) := by
  obtain ⟨F, G0, G1, N, h, h2⟩ := h
  refine ⟨F, h.disk, fun k hk => h.new k (.inl hk), h.old, fun k hk => ?_⟩
  rcases hk with hk | hk | hk
  · exact ⟨(h2 k hk).1, (h2 k hk).2.1⟩
  · rw [hk]; exact ⟨h.lt n h.mem, fun e => h.fn n e h.mem⟩
  · exact ⟨h.lt k (h.own k hk), fun e => h.fn k e (h.own k hk)⟩
theorem ink_power {w0 : Fr} {w : World} {n d l0 l1 : Nat} {lv : Value} {S : InSt} (h : InLive w0 w n d l0 l1 lv S) (p : Int) (hp : p ≤ 9223372036854775807) :
    Calls Try.prog 19 #[ptr d 0, .int .i64 p] w fun e w' => e = .returned (.int .i64 (Dk.power S.D p).1) ∧ InLive w0 w' n d l0 l1 lv { S with D := (Dk.power S.D p).2 } := by
  obtain ⟨F, G0, G1, N, h⟩ := h
  refine (power_any w d S.D F h.disk p hp).mono ?_
  rintro e w' ⟨rfl, ho, hd⟩
  have hdm := h.disk.mem
  have e0 : ∀ k, G0 k → ¬ k = d := fun k hk e => h.f0 d hdm (e ▸ hk)
  have e1 : ∀ k, G1 k → ¬ k = d := fun k hk e => h.f1 d hdm (e ▸ hk)
  have en : ∀ k, N k → ¬ k = d := fun k hk e => h.fn d hdm (e ▸ hk)
  have hs := ho.size
  exact ⟨rfl, F, G0, G1, N, h.old.only ho (fun i hi => by rw [show i = d from hi]; exact h.new d (.inl hdm)), hd, h.log0.only ho e0, h.log1.only ho e1, (ho.block n (h.lt n h.mem) (en n h.mem)).trans h.cell, h.row.kept (fun g hg => ho.block g (h.lt g (h.own g hg)) (en g (h.own g hg))), h.mem, h.own, fun k hk => Nat.lt_of_lt_of_le (h.lt k hk) hs, h.f0, h.f1, h.fn, h.g01, h.g0n, h.g1n, h.new⟩

/-- What Len and At ask of an input. -/
def InRow (w : World) (n : Nat) (lv : Value) (rs : List InR) : Prop := (∃ a b, w.heap[n]? = some (.cells #[a, b, lv] 96)) ∧ RowAt w 32 3 lv rs.length (inCells rs)
theorem InLive.rowOf {w0 : Fr} {w : World} {n d l0 l1 : Nat} {lv : Value} {S : InSt} (h : InLive w0 w n d l0 l1 lv S) : InRow w n lv S.rs := by
  obtain ⟨h1, h2, -⟩ := h.cells
  exact ⟨⟨_, _, h1⟩, h2⟩
theorem InRow.kept {w w' : World} {n : Nat} {lv : Value} {rs : List InR} (h : InRow w n lv rs) (hk : ∀ k, k = n ∨ lv.ownBlock = some k → w'.heap[k]? = w.heap[k]?) : InRow w' n lv rs := by
  obtain ⟨⟨a, b, h1⟩, h2⟩ := h
  exact ⟨⟨a, b, (hk n (.inl rfl)).trans h1⟩, h2.kept (fun g hg => hk g (.inr hg))⟩
theorem InRow.below {w w' : World} {n : Nat} {lv : Value} {rs : List InR} (h : InRow w n lv rs) (hb : Below w.heap.size w w') : InRow w' n lv rs := by
  refine h.kept (fun k hk => hb.block k ?_)
  obtain ⟨⟨a, b, h1⟩, h2⟩ := h
  rcases hk with hk | hk
  · rw [hk]; exact (Array.getElem?_eq_some_iff.1 h1).1
  · obtain ⟨cur, hc⟩ := h2.type k hk
    exact (Array.getElem?_eq_some_iff.1 hc).1
theorem inrow_len {w : World} {n : Nat} {lv : Value} {rs : List InR} (h : InRow w n lv rs) :
    Calls Try.prog 18 #[ptr n 0] w fun e w' => e = .returned (.int .i64 (rs.length : Int)) ∧ w = w' := by
  obtain ⟨⟨u, v, hc⟩, hr⟩ := h
  have c2 := cells_at hc 2 _ rfl
  obtain ⟨a, c, rfl⟩ := hr.reads.shape
  have hlen := hr.reads.lenLe
  unfold maxLen at hlen
  clear hc hr
  unfold ptr
  go_enter Try.func18, Try.ntmps18
  go_wp2_with fail
  go_ret
  exact ⟨rfl, rfl⟩
set_option maxHeartbeats 4000000 in
theorem inrow_at {w : World} {n : Nat} {lv : Value} {rs : List InR} (h : InRow w n lv rs) (k : Nat) (hn : rs.length ≤ 500) (x : InR) (hx : rs[k]? = some x) :
    Calls Try.prog 16 #[ptr n 0, .int .i64 (k : Int)] w fun e w' => e = .returned (.tuple #[x.val', .int .i64 0]) ∧ Below w.heap.size w w' := by
  obtain ⟨⟨u, uu, hc⟩, hr⟩ := h
  have hkl := (List.getElem?_eq_some_iff.1 hx).1
  obtain ⟨b, o, cap, rfl, hcap, hcm, hblt, hcells⟩ := hr.reads.some (by omega)
  have c2 := cells_at hc 2 _ rfl
  obtain ⟨i0, i1, i2⟩ := inCells_at rs k x hx
  have r0 := hcells _ _ i0
  have r1 := hcells _ _ i1
  have r2 := hcells _ _ i2
  rw [← Nat.add_assoc] at r1 r2
  simp only [List.getElem_toArray, List.getElem_cons_zero, List.getElem_cons_succ] at c2
  have hk1 : ¬ ((rs.length : Int) ≤ (k : Int)) := by omega
  have hk2 : ¬ ((k : Int) < 0) := by omega
  have hk3 : (k : Int) < (rs.length : Int) := by omega
  obtain ⟨m, hm⟩ : ∃ m, rs.length = m := ⟨_, rfl⟩
  rw [hm] at c2 hn hk1 hk3 hcap
  unfold maxLen at hcm
  have hnlt : n < w.heap.size := (Array.getElem?_eq_some_iff.1 hc).1
  obtain ⟨p, kk, v⟩ := x
  have hz := heap_alloc_new w (.cells #[.int .i64 p, .int .i64 kk, .int .i64 v] 32)
  have q0 := cells_at hz 0 _ rfl
  have q1 := cells_at hz 1 _ rfl
  have q2 := cells_at hz 2 _ rfl
  clear hc hr hcells hm hkl hx i0 i1 i2 hz
  unfold ptr InR.val'
  show Calls _ _ _ _ fun e w' => e = .returned (.tuple #[.agg #[.int .i64 p, .int .i64 kk, .int .i64 v], .int .i64 0]) ∧ _
  go_enter Try.func16, Try.ntmps16
  go_wp2_with fail
  exact bodyPost_ret (v := .tuple #[.agg #[.int .i64 p, .int .i64 kk, .int .i64 v], .int .i64 0]) (by simp [results, Try.results16, go_sem, q0, q1, q2]) rfl ⟨rfl, bel_alloc _ _⟩

end Go.Proofs.Ytllecjhfbojgcaa
