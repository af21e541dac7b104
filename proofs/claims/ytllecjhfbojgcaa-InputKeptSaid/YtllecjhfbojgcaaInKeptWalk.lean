/-
  The walk through InputKept.
-/
import Derived.Test.YtllecjhfbojgcaaInRowWalk
import Derived.Deep.CutRange
import Derived.Deep.CutBlock
import Derived.ArgAppend
namespace Go.Proofs.Ytllecjhfbojgcaa
open Go.RowKit
set_option maxRecDepth 20000

theorem run_append_nil {P : Program} {t e ty : TypeId} {i : TypeInfo} {z : Value} (w : World) (ht : P.underlying t = some (.slice e)) (hi : P.info? e = some i) (hz : i.zero = some z) (base : Option Addr) (n c : Nat) (hnc : n ≤ c) (hb : base = none → n = 0 ∧ c = 0) :
    (Builtin.append_ #[t, t] ty #[.slice base n c, .slice none 0 0]).run P w = .ok (.slice base n c) w := by
  have hf : (Builtin.firstCells i.size 0 (.slice none 0 0)).run P w = .ok #[] w := run_firstCells_none w _ _ _ _
  cases base with
  | none =>
    obtain ⟨rfl, rfl⟩ := hb rfl
    simp [Builtin.append_, run_underlying ht, sizeOf, typeInfo, zeroValue, hi, hz, Builtin.lenOf, hf]
  | some x => simp [Builtin.append_, run_underlying ht, sizeOf, typeInfo, zeroValue, hi, hz, Builtin.lenOf, hnc, hf, storeCells]

theorem inrow_range {w : World} {n : Nat} {lv : Value} {rs : List InR} (h : InRow w n lv rs) (k : Int) (hk0 : ¬ k < 0) (hk : (rs.length : Int) ≤ k) :
    Calls Try.prog 16 #[ptr n 0, .int .i64 k] w fun e w' => e = .returned (.tuple #[.agg #[.int .i64 0, .int .i64 0, .int .i64 0], .int .i64 5]) ∧ Below w.heap.size w w' := by
  obtain ⟨⟨u, uu, hc⟩, hr⟩ := h
  obtain ⟨a, c, rfl⟩ := hr.reads.shape
  have hz := heap_alloc_new w (.cells #[.int .i64 0, .int .i64 0, .int .i64 0] 32)
  have c2 := cells_at ((Below.heap_alloc w (.cells #[.int .i64 0, .int .i64 0, .int .i64 0] 32) n (Array.getElem?_eq_some_iff.1 hc).1).trans hc) 2 _ rfl
  simp only [List.getElem_toArray, List.getElem_cons_zero, List.getElem_cons_succ] at c2
  have q0 := cells_at hz 0 _ rfl
  have q1 := cells_at hz 1 _ rfl
  have q2 := cells_at hz 2 _ rfl
  have hlen := hr.reads.lenLe
  unfold maxLen at hlen
  clear hc hr
  unfold ptr
  go_enter Try.func16, Try.ntmps16
  go_wp2_with fail
  exact bodyPost_ret (v := .tuple #[.agg #[.int .i64 0, .int .i64 0, .int .i64 0], .int .i64 5]) (by simp [results, Try.results16, go_sem, q0, q1, q2]) rfl ⟨rfl, bel_alloc _ _⟩

theorem RowAt.caps {w : World} {e : TypeId} {size : Nat} {a : Option Addr} {n c : Nat} {xs : List Value} (h : RowAt w e size (.slice a n c) n xs) : n ≤ c ∧ c ≤ maxLen ∧ (a = none → n = 0 ∧ c = 0) := by
  rcases h with ⟨h1, h2⟩ | ⟨h1, g, cur, h0, h2, h3, h4, h5⟩
  · rcases h2 with ⟨h2, h3⟩ | ⟨g, c', cur, h0, -, h2, h3, h4, h5, h6⟩
    · cases h2; exact ⟨Nat.le_refl _, Nat.zero_le _, fun _ => ⟨rfl, rfl⟩⟩
    · cases h0; exact ⟨h3, h4, fun e => by cases e⟩
  · cases h0; exact ⟨Nat.le_refl _, h3, fun e => by cases e⟩
theorem reads_ad {w : World} {a : Option Addr} {n c : Nat} {xs : List Value} (h : Reads w (.slice a n c) n xs) : ∀ b, a = some b → ∀ j u, xs[j]? = some u → w.cell? (b.add j) = some u := fun b hb j u hj => by
  rcases h with ⟨a', k, h1, h2, h3⟩ | ⟨b', o, k, h1, h2, h3, h4, h5⟩
  · rw [h3] at hj; simp at hj
  · cases h1
    cases hb
    rw [addr_add]
    exact h5 j u hj
/-- A row cut to its length reads as it did. -/
theorem Reads.tight {w : World} {a : Option Addr} {n c : Nat} {xs : List Value} (h : Reads w (.slice a n c) n xs) : Reads w (.slice a n n) n xs := by
  rcases h with ⟨a', k, h1, h2, h3⟩ | ⟨b', o, k, h1, h2, h3, h4, h5⟩
  · cases h1; exact .inl ⟨_, _, rfl, rfl, h3⟩
  · cases h1; exact .inr ⟨_, _, _, rfl, Nat.le_refl _, by omega, h4, h5⟩

/-- The record that was being added, as a row. -/
def Being (w : World) (vb : Value) (bs : List InR) : Prop :=
  (bs = [] ∧ vb = .slice none 0 0) ∨ ∃ x g, bs = [x] ∧ vb = .slice (some ⟨g, 0, none⟩) 1 1 ∧ w.heap[g]? = some (.cells #[.int .i64 x.part, .int .i64 x.key, .int .i64 x.val] 32)
theorem Being.kept {w w' : World} {vb : Value} {bs : List InR} (h : Being w vb bs) (hk : ∀ g, vb.ownBlock = some g → w'.heap[g]? = w.heap[g]?) : Being w' vb bs := by
  rcases h with h | ⟨x, g, h1, rfl, h3⟩
  · exact .inl h
  · exact .inr ⟨x, g, h1, rfl, (hk g rfl).trans h3⟩
theorem Being.len {w : World} {vb : Value} {bs : List InR} (h : Being w vb bs) : bs.length ≤ 1 := by
  rcases h with ⟨rfl, -⟩ | ⟨x, g, rfl, -, -⟩
  · exact Nat.zero_le _
  · exact Nat.le_refl _
theorem Being.shape {w : World} {vb : Value} {bs : List InR} (h : Being w vb bs) : ∃ a c, vb = .slice a bs.length c := by
  rcases h with ⟨rfl, rfl⟩ | ⟨x, g, rfl, rfl, -⟩
  · exact ⟨_, _, rfl⟩
  · exact ⟨_, _, rfl⟩

/-- What is there when no more is added. -/
structure KeptIn (w0 wx : World) (d : Nat) (va vb : Value) (all bs : List InR) : Prop where
  ex : ∃ D l, LiveK w0 wx d D (fun b => va.ownBlock = some b ∨ vb.ownBlock = some b) ∧ Lg.Two fI D (sI all) l ∧ (l = [] ∨ ∃ x, bs = [x] ∧ l = [(bI x, entI all.length x)])
  row : RowAt wx 32 3 va all.length (inCells all)
  being : Being wx vb bs
  len : all.length ≤ 100
  part : ∀ x ∈ all ++ bs, x.part = 0 ∨ x.part = 1
  in64 : ∀ x ∈ all ++ bs, Cl.In64 x.key ∧ Cl.In64 x.val

/-- What is there ahead of each Open. -/
structure TornIn (w0 wr : World) (d : Nat) (va vb : Value) (all bs rs : List InR) : Prop where
  ex : ∃ D t, LiveK w0 wr d D (fun b => va.ownBlock = some b ∨ vb.ownBlock = some b) ∧ Lg.Tear fI D (sI rs) t ∧ ∀ p, (Lg.bytesOf (sI rs p)).length + (t p).length ≤ 1000000
  row : RowAt wr 32 3 va all.length (inCells all)
  being : Being wr vb bs
  which : rs = all ∨ rs = all ++ bs
  len : all.length ≤ 100
  part : ∀ x ∈ all ++ bs, x.part = 0 ∨ x.part = 1
  in64 : ∀ x ∈ all ++ bs, Cl.In64 x.key ∧ Cl.In64 x.val

theorem TornIn.rlen {w0 wr : World} {d : Nat} {va vb : Value} {all bs rs : List InR} (h : TornIn w0 wr d va vb all bs rs) : all.length ≤ rs.length ∧ rs.length ≤ all.length + bs.length ∧ rs.length ≤ 101 := by
  have h1 := h.len
  have h2 := h.being.len
  rcases h.which with e | e
  · rw [e]; omega
  · rw [e, List.length_append]; omega
theorem TornIn.mem {w0 wr : World} {d : Nat} {va vb : Value} {all bs rs : List InR} (h : TornIn w0 wr d va vb all bs rs) : ∀ x ∈ rs, x ∈ all ++ bs := fun x hx => by
  rcases h.which with e | e
  · rw [e] at hx; exact List.mem_append_left _ hx
  · rw [e] at hx; exact hx
theorem TornIn.at' {w0 wr : World} {d : Nat} {va vb : Value} {all bs rs : List InR} (h : TornIn w0 wr d va vb all bs rs) (q : Nat) (hq : q < rs.length) : rs[q]? = (all ++ bs)[q]? := by
  rcases h.which with e | e
  · rw [e] at hq ⊢
    rw [List.getElem?_append_left hq]
  · rw [e]

theorem kin_crash {w0 wx : World} {d : Nat} {va vb : Value} {all bs : List InR} (h : KeptIn w0 wx d va vb all bs) (a b : Int) :
    Calls Try.prog 20 #[ptr d 0, .int .i64 a, .int .i64 b] wx fun e w' => e = .returned (.tuple #[]) ∧ ∃ rs, TornIn w0 w' d va vb all bs rs := by
  obtain ⟨D, l, h1, h2, h3⟩ := h.ex
  refine (lk_crash h1 a b).mono ?_
  rintro e w' ⟨rfl, h4, h5, h6⟩
  have hn := h.len
  rcases h3 with rfl | ⟨x, rfl, rfl⟩
  · obtain ⟨rs', t, h7, h8, h9⟩ := two_crash (x := ⟨0, 0, 0⟩) (.inl rfl) (.inl rfl) h2 (by omega) a b
    rcases h7 with rfl | ⟨h7, -⟩
    · exact ⟨rfl, _, ⟨⟨_, t, h4, h8, h9⟩, h.row.kept (fun g hg => h5 g (.inl hg)), h.being.kept (fun g hg => h5 g (.inr hg)), .inl rfl, hn, h.part, h.in64⟩⟩
    · exact absurd rfl h7
  · obtain ⟨rs', t, h7, h8, h9⟩ := two_crash (x := x) (h.part x (by simp)) (.inr rfl) h2 (by omega) a b
    refine ⟨rfl, rs', ⟨⟨_, t, h4, h8, h9⟩, h.row.kept (fun g hg => h5 g (.inl hg)), h.being.kept (fun g hg => h5 g (.inr hg)), ?_, hn, h.part, h.in64⟩⟩
    rcases h7 with h7 | ⟨-, h7⟩
    · exact .inl h7
    · exact .inr h7

/-- Open, and what is there behind the next crash. -/
theorem torn_open {w0 wr : World} {d : Nat} {va vb : Value} {all bs rs : List InR} (h : TornIn w0 wr d va vb all bs rs) :
    Calls Try.prog 13 #[ptr d 0] wr fun e w' => ∃ n lv, e = .returned (.tuple #[ptr n 0, .int .i64 0]) ∧ InRow w' n lv rs ∧ TornIn w0 w' d va vb all bs rs := by
  obtain ⟨D, t, h1, h2, h3⟩ := h.ex
  obtain ⟨-, -, hr⟩ := h.rlen
  have hp : ∀ x ∈ rs, x.part = 0 ∨ x.part = 1 := fun x hx => h.part x (h.mem x hx)
  have hi : ∀ x ∈ rs, Cl.In64 x.key ∧ Cl.In64 x.val := fun x hx => h.in64 x (h.mem x hx)
  obtain ⟨D1, D2, ho0, ho1, ht, hs⟩ := tear_open h2 h3 hp hi
  obtain ⟨f, hf1, hf2⟩ := h1.call
  refine (inopen_recs f wr d D D1 D2 hf1 rs (by omega) hp hi ho0 ho1).mono ?_
  rintro e w' ⟨n, l0, l1, lv, rfl, h5⟩
  obtain ⟨h6, hk6, -⟩ := hf2 _ _ _ _ _ _ h5
  exact ⟨n, lv, rfl, h6.live.rowOf, ⟨⟨D2, _, (h6.disk.less (fun k hk => .inl hk)), ht, hs.size (by show rs.length ≤ 201; omega)⟩, h.row.kept (fun g hg => hk6 g (.inl hg)), h.being.kept (fun g hg => hk6 g (.inr hg)), h.which, h.len, h.part, h.in64⟩⟩

theorem torn_below {w0 wr w' : World} {d : Nat} {va vb : Value} {all bs rs : List InR} (h : TornIn w0 wr d va vb all bs rs) (hb : Below wr.heap.size wr w') : TornIn w0 w' d va vb all bs rs := by
  obtain ⟨D, t, h1, h2, h3⟩ := h.ex
  refine ⟨⟨D, t, (h1.grow hb).less (fun k hk => .inl hk), h2, h3⟩, h.row.below hb, h.being.kept (fun g hg => hb.block g ?_), h.which, h.len, h.part, h.in64⟩
  obtain ⟨F, -, -, -, h4⟩ := h1
  exact (h4 g (.inr hg)).1
theorem torn_crash0 {w0 wr : World} {d : Nat} {va vb : Value} {all bs rs : List InR} (h : TornIn w0 wr d va vb all bs rs) :
    Calls Try.prog 20 #[ptr d 0, .int .i64 0, .int .i64 0] wr fun e w' => e = .returned (.tuple #[]) ∧ TornIn w0 w' d va vb all bs rs := by
  obtain ⟨D, t, h1, h2, h3⟩ := h.ex
  refine (lk_crash h1 0 0).mono ?_
  rintro e w' ⟨rfl, h4, h5, h6⟩
  have hk : (Dk.crash D 0 0).now = D.now := by
    show Dk.kept D 0 0 = _
    unfold Dk.kept
    rw [h2.loose, h2.same]
    rfl
  refine ⟨rfl, ⟨_, t, h4, ⟨Dk.crash_ok h2.ok 0 0, ⟨rfl, rfl⟩, rfl, rfl, h2.ne, h2.lt, by rw [hk]; exact h2.b, h2.torn, h2.gs, h2.room, by rw [hk]; exact h2.tot⟩, h3⟩, h.row.kept (fun g hg => h5 g (.inl hg)), h.being.kept (fun g hg => h5 g (.inr hg)), h.which, h.len, h.part, h.in64⟩

theorem sound_power (p : Int) (h0 : 0 ≤ p) (h1 : p ≤ 9223372036854775807) : (Dk.power (Dk.fresh 4194304) p).1 = 0 ∧ Sound ⟨(Dk.power (Dk.fresh 4194304) p).2, ⟨[], 0⟩, ⟨[], 0⟩, []⟩ ∧ InFit 0 ⟨(Dk.power (Dk.fresh 4194304) p).2, ⟨[], 0⟩, ⟨[], 0⟩, []⟩ := by
  have hok := Dk.power_ok (Dk.fresh_ok 4194304 (by decide)) p h1
  have : Dk.power (Dk.fresh 4194304) p = (0, { Dk.fresh 4194304 with left := p }) := by
    unfold Dk.power
    rw [if_neg (by simp [Dk.fresh]), if_neg (by omega)]
  rw [this] at hok ⊢
  have h := Sound.fresh
  exact ⟨rfl, ⟨h.two.same hok rfl rfl rfl, rfl, rfl, h.part, h.in64⟩, ⟨Nat.le_refl _, Nat.le_refl _, Nat.zero_le _, Nat.zero_le _, fun x hx => by cases hx⟩⟩

/-- Where all is added. -/
theorem AddAt.kin {w0 wr : World} {n d l0 l1 : Nat} {lv : Value} {S : InSt} {va : Value} {j : Nat} (h : AddAt w0 wr n d l0 l1 lv S va (fun b => va.ownBlock = some b) j) (hj : j ≤ 100) : KeptIn w0 wr d va (.slice none 0 0) S.rs [] := by
  have := h.fit.n
  refine ⟨⟨S.D, [], h.ink.disk.less (fun k hk => ?_), h.sound.two, .inl rfl⟩, h.row, .inl ⟨rfl, rfl⟩, by omega, ?_, ?_⟩
  · rcases hk with hk | hk
    · exact .inl hk
    · simp [Value.ownBlock] at hk
  · rw [List.append_nil]; exact h.sound.part
  · rw [List.append_nil]; exact h.sound.in64
/-- Where one is left half. -/
theorem kin_break {w0 w5 w6 : World} {n d l0 l1 : Nat} {lv' : Value} {S : InSt} {D : Dk.St} {va : Value} {K : Nat → Prop} {S' : InSt} {x : InR} {l : List (Bool × Lg.Rec)} (h5 : InK w0 w5 n d l0 l1 lv' S' K) (hK : ∀ b, va.ownBlock = some b → K b) (hD : S'.D = D) (hs : Sound S) (hn : S.rs.length ≤ 100)
    (hx : x.part = 0 ∨ x.part = 1) (hi : Cl.In64 x.key ∧ Cl.In64 x.val) (hl : l = [] ∨ l = [(bI x, entI S.rs.length x)]) (ht : Lg.Two fI D (sI S.rs) l) (hrow : RowAt w5 32 3 va S.rs.length (inCells S.rs)) (hb : Below w5.heap.size w5 w6) (g : Nat) (hg : w5.heap.size ≤ g) (hg6 : w6.heap[g]? = some (.cells #[.int .i64 x.part, .int .i64 x.key, .int .i64 x.val] 32)) :
    KeptIn w0 w6 d va (.slice (some ⟨g, 0, none⟩) 1 1) S.rs [x] := by
  have hgl := (Array.getElem?_eq_some_iff.1 hg6).1
  have h1 := (h5.disk.grow hb).less (K' := fun b => va.ownBlock = some b ∨ (Value.slice (some ⟨g, 0, none⟩) 1 1).ownBlock = some b) (fun k hk => by
    rcases hk with hk | hk
    · exact .inl (.inl (hK k hk))
    · simp only [Value.ownBlock, Option.some.injEq] at hk
      exact .inr ⟨by omega, by omega⟩)
  rw [hD] at h1
  refine ⟨⟨D, l, h1, ht, ?_⟩, hrow.below hb, .inr ⟨x, g, rfl, rfl, hg6⟩, hn, fun y hy => ?_, fun y hy => ?_⟩
  · rcases hl with hl | hl
    · exact .inl hl
    · exact .inr ⟨x, rfl, hl⟩
  · rcases List.mem_append.1 hy with hy | hy
    · exact hs.part y hy
    · rw [List.mem_singleton.1 hy]; exact hx
  · rcases List.mem_append.1 hy with hy | hy
    · exact hs.in64 y hy
    · rw [List.mem_singleton.1 hy]; exact hi

set_option maxHeartbeats 16000000 in
set_option maxRecDepth 100000 in
theorem inputKept_walk (v : Value) (l : List InR) (p chg byt : Int) (w : World) (hr : Reads w v l.length (inCells l)) (hi : ∀ r ∈ l, Cl.In64 r.key ∧ Cl.In64 r.val) (hp : (Lit.int .i64 p).wf = true) (_hc : (Lit.int .i64 chg).wf = true) (_hb : (Lit.int .i64 byt).wf = true) :
    Calls Try.prog 6 #[v, .int .i64 p, .int .i64 chg, .int .i64 byt] w fun e w' => e = .returned (.bool true) ∧ Below w.heap.size w w' := by
  have hlen := hr.lenLe
  unfold maxLen at hlen
  have hp2 := (bounds_i64 hp).2
  have HR := Lib.hid hr
  have HI := Lib.hid hi
  obtain ⟨i0, hi0, hz0, hz1, hz2⟩ := info_parts infoIn
  obtain ⟨a, c, rfl⟩ := hr.shape
  clear hr hi hp _hc _hb
  by_cases hbig : 100 < l.length
  · have hb1 : (100 : Int) < (l.length : Int) := by omega
    go_enter Try.func6, Try.ntmps6
    go_wp2_with fail
    refine (inworks_any _).mono ?_
    rintro e w1 ⟨rfl, hb⟩
    go_wp2_with fail
    go_ret
    exact ⟨rfl, hb⟩
  · have hb1 : ¬ (100 : Int) < (l.length : Int) := by omega
    by_cases hpn : p < 0
    · go_enter Try.func6, Try.ntmps6
      go_wp2_with fail
      refine (inworks_any _).mono ?_
      rintro e w1 ⟨rfl, hb⟩
      go_wp2_with fail
      go_ret
      exact ⟨rfl, hb⟩
    · obtain ⟨m, hm⟩ : ∃ m, l.length = m := ⟨_, rfl⟩
      have HM := Lib.hid hm
      rw [hm] at hb1 hlen hbig
      rw [hm]
      obtain ⟨k1, k2, k3⟩ := sound_power p (by omega) (by omega)
      have HK2 := Lib.hid k2
      have HK3 := Lib.hid k3
      clear k2 k3 hm
      go_enter Try.func6, Try.ntmps6
      go_wp2_with fail
      refine (live_new 4194304 w (by decide)).mono ?_
      rintro e w1 ⟨rfl, h⟩
      have H := Lib.hid (show Live w w1 w.heap.size (Dk.fresh 4194304) from h)
      clear h
      unfold ptr
      go_wp2_with fail
      refine (in_open w1 w.heap.size w _ H.out (by kernel_rfl) (by kernel_rfl)).mono ?_
      rintro e w2 ⟨n, l0, l1, rfl, h⟩
      have HN := Lib.hid h
      clear h
      unfold ptr
      go_wp2_with fail
      refine (ink_power HN.out p (by omega)).mono ?_
      rintro e w3 ⟨rfl, h⟩
      have k1' : (Dk.power (InSt.mk (Dk.fresh 4194304) ⟨[], 0⟩ ⟨[], 0⟩ []).D p).1 = 0 := k1
      rw [k1']
      have HP := Lib.hid (show AddAt w w3 n w.heap.size l0 l1 (.slice none 0 0) ⟨(Dk.power (Dk.fresh 4194304) p).2, ⟨[], 0⟩, ⟨[], 0⟩, []⟩ (.slice none 0 0) (fun b => (Value.slice none 0 0).ownBlock = some b) 0 from ⟨h.keep.less (fun k hk => by simp [Value.ownBlock] at hk), .inl (World.ownsRow_nil _ _ _ _), fun b hb => by simp [Value.ownBlock] at hb, HK2.out, HK3.out⟩)
      clear h k1 k1'
      go_upto_block 0 with fail
      go_cut [13, 14] from 51 to 74 (fun va vb wx => ∃ (all bs : List InR), Hid (KeptIn w wx w.heap.size va vb all bs))
      case first =>
        go_wp2_with fail
        go_loopw [13, 14, 53] (fun va vb i wr => ∃ (j : Nat) (lv : Value) (S : InSt), j ≤ m ∧ i = .int .i64 (j : Int) ∧ vb = .slice none 0 0 ∧ Hid (AddAt w wr n w.heap.size l0 l1 lv S va (fun b => va.ownBlock = some b) j)) (fun _ _ i _ => m - (intOf i).toNat)
        case atStart => exact ⟨0, _, _, Nat.zero_le _, rfl, rfl, HP⟩
        case round =>
          obtain ⟨j, lv, S, hj, rfl, rfl, HS⟩ := hrel
          obtain ⟨va, rfl⟩ : ∃ x, x = u13 := ⟨_, rfl⟩
          by_cases hlt : j < m
          · obtain ⟨x, hx⟩ : ∃ x, l[j]? = some x := ⟨l[j]'(by rw [HM.out]; omega), by simp⟩
            obtain ⟨b, o, cap, hv, hcap, hcm, hblt, hcells⟩ := HR.out.some (by rw [HM.out]; omega)
            cases hv
            obtain ⟨j0, j1, j2⟩ := inCells_at l j x hx
            have hbl : Below w.heap.size w wr := HS.out.ink.live.bel
            have r0 := (World.cell?_of_block (hbl.block b hblt)).trans (hcells _ _ j0)
            have r1 := (World.cell?_of_block (hbl.block b hblt)).trans (hcells _ _ j1)
            have r2 := (World.cell?_of_block (hbl.block b hblt)).trans (hcells _ _ j2)
            rw [← Nat.add_assoc] at r1 r2
            have hjk : (j : Int) < (m : Int) := by omega
            have HX := Lib.hid (HI.out x (List.mem_of_getElem? hx))
            clear j0 j1 j2 hbl hx hcells
            have hSn := HS.out.fit.n
            have HK1 := Lib.hid ((HS.out.ink.grow (bel_alloc wr (.cells #[.int .i64 x.part, .int .i64 x.key, .int .i64 x.val] 32))).less (K' := fun b => va.ownBlock = some b ∨ b = wr.heap.size) (fun b e => by
              rcases e with e | e
              · exact .inl e
              · exact .inr ⟨by omega, by rw [e]; simp⟩))
            have HRW := Lib.hid (HS.out.row.below (bel_alloc wr (.cells #[.int .i64 x.part, .int .i64 x.key, .int .i64 x.val] 32)))
            have hadd := ink_add HK1.out HS.out.fit (by omega) x HX.out.1 HX.out.2
            have hfit := HS.out.fit.add x
            have hxn := heap_alloc_new wr (.cells #[.int .i64 x.part, .int .i64 x.key, .int .i64 x.val] 32)
            have HXN := Lib.hid hxn
            have HFIT := Lib.hid hfit
            by_cases hx2 : x.part = 0 ∨ x.part = 1
            · have hso := HS.out.sound.add (by omega) x hx2 HX.out
              have HX2 := Lib.hid hx2
              rcases hso with ⟨q1, q2, q3, -⟩ | ⟨q1, -, ql, q3, q4⟩
              · rw [q1] at hadd
                have HQ2 := Lib.hid q2
                have HQ3 := Lib.hid q3
                have HADD := Lib.hid hadd
                obtain ⟨p, kk, vv⟩ := x
                simp only at r0 r1 r2
                clear hadd hfit hxn q1 q2 q3 hx2
                unfold InR.val' ptr at HADD
                go_wp2_with fail
                refine HADD.out.mono ?_
                rintro e w5 ⟨lv', rfl, h5, hk5, hs5⟩
                have H5 := Lib.hid h5
                have hX5 := (hk5 wr.heap.size (.inr rfl)).trans HXN.out
                have s0 := cells_at hX5 0 _ rfl
                have s1 := cells_at hX5 1 _ rfl
                have s2 := cells_at hX5 2 _ rfl
                simp only [List.getElem_toArray, List.getElem_cons_zero, List.getElem_cons_succ] at s0 s1 s2
                have HRW5 := Lib.hid (HRW.out.kept (fun b hb => hk5 b (.inl hb)))
                have hgl5 : wr.heap.size < w5.heap.size := (Array.getElem?_eq_some_iff.1 hX5).1
                clear h5 hk5 hs5 hX5
                go_wp2_with (at_builtin; refine wpList_append_row rfl _ _ 39 rfl 32 i0 (.agg #[.int .i64 0, .int .i64 0, .int .i64 0]) 3 24 Try.underlying39 hi0 hz0 hz1 hz2 rfl (by decide) va S.rs.length (inCells S.rs) (by rfl) (HRW5.out.kept (fun b hb => Below.heap_alloc _ _ _ (HRW5.out.lt b hb))) ⟨w5.heap.size, 0, none⟩ 1 1 [.int .i64 p, .int .i64 kk, .int .i64 vv] rfl rfl (by intro jj u hj; rw [addr_add, Nat.zero_add]; exact cell_row w5 _ _ jj u (by simpa using hj)) (by simp [Value.oneCell']) (by decide) (by unfold maxLen; omega) (by omega) ?_)
                intro gg cap2 w6 hown6 hgrow hat hltg
                have hN := AddAt.push (x := ⟨p, kk, vv⟩) HS.out H5.out HQ2.out HQ3.out HFIT.out hown6 hgrow (hat.imp id (fun h => by simpa using h)) hltg
                have HN2 := Lib.hid hN
                clear hown6 hgrow hat hN
                go_wp2_with fail
                go_roundw
                case rel => exact ⟨j + 1, lv', _, by omega, by go_num, rfl, HN2⟩
                case measure => simp [intOf]; omega
              · rw [q1] at hadd
                have HQ3 := Lib.hid q3
                have HQ4 := Lib.hid q4
                have HADD := Lib.hid hadd
                obtain ⟨p, kk, vv⟩ := x
                simp only at r0 r1 r2
                clear hadd hfit hxn q1 q3 q4 hx2
                unfold InR.val' ptr at HADD
                go_wp2_with fail
                refine HADD.out.mono ?_
                rintro e w5 ⟨lv', rfl, h5, hk5, hs5⟩
                have H5 := Lib.hid h5
                have hX5 := (hk5 wr.heap.size (.inr rfl)).trans HXN.out
                have s0 := cells_at hX5 0 _ rfl
                have s1 := cells_at hX5 1 _ rfl
                have s2 := cells_at hX5 2 _ rfl
                simp only [List.getElem_toArray, List.getElem_cons_zero, List.getElem_cons_succ] at s0 s1 s2
                have hkb := kin_break (S := S) (x := ⟨p, kk, vv⟩) h5 (va := va) (fun b hb => .inl hb) rfl HS.out.sound (by omega) HX2.out HX.out HQ3.out HQ4.out (HRW.out.kept (fun b hb => hk5 b (.inl hb))) (bel_alloc w5 (.cells #[.int .i64 p, .int .i64 kk, .int .i64 vv] 32)) w5.heap.size (Nat.le_refl _) (heap_alloc_new w5 _)
                have HKB := Lib.hid hkb
                clear h5 hk5 hs5 hX5 hkb
                go_wp2_with fail
                go_meet
                case rel => exact ⟨S.rs, [⟨p, kk, vv⟩], HKB⟩
            · rw [add_bad (by omega)] at hadd hfit
              have HADD := Lib.hid hadd
              obtain ⟨p, kk, vv⟩ := x
              simp only at r0 r1 r2
              unfold InR.val' ptr at HADD
              clear hadd hfit hxn hx2
              go_wp2_with fail
              refine HADD.out.mono ?_
              rintro e w5 ⟨lv', rfl, h5, hk5, hs5⟩
              have HN2 : Hid (AddAt w w5 n w.heap.size l0 l1 lv' S va (fun b => va.ownBlock = some b) (j + 1)) := Lib.hid ((AddAt.mk (h5.less (fun b hb => .inl hb)) (HRW.out.kept (fun b hb => hk5 b (.inl hb))) HS.out.own HS.out.sound HS.out.fit).mono (by omega))
              clear h5 hk5 hs5
              go_wp2_with fail
              go_roundw
              case rel => exact ⟨j + 1, lv', S, by omega, by go_num, rfl, HN2⟩
              case measure => simp [intOf]; omega
          · have hje : j = m := by omega
            subst hje
            have hjj : ¬ (j : Int) < (j : Int) := by omega
            clear hlt
            have HKB := Lib.hid (HS.out.kin (by omega))
            go_wp2_with fail
            go_meet
            case rel => exact ⟨S.rs, [], HKB⟩
      case rest =>
        obtain ⟨all, bs, HK⟩ := hcut
        obtain ⟨va, rfl⟩ : ∃ x, x = u13 := ⟨_, rfl⟩
        obtain ⟨vb, rfl⟩ : ∃ x, x = u14 := ⟨_, rfl⟩
        have hcr := kin_crash HK.out chg byt
        unfold ptr at hcr
        go_wp2_with fail
        refine hcr.mono ?_
        clear hcr
        rintro e w4 ⟨rfl, rs, h4⟩
        have H4 := Lib.hid h4
        clear h4
        go_wp2_with fail
        go_loopw [79] (fun i wr => ∃ (q : Nat), q ≤ 2 ∧ i = .int .i64 (q : Int) ∧ Hid (TornIn w wr w.heap.size va vb all bs rs)) (fun i _ => 2 - (intOf i).toNat)
        case atStart => exact ⟨0, by omega, rfl, H4⟩
        case round =>
          obtain ⟨q, hq, rfl, HT⟩ := hrel
          by_cases hlt : q < 2
          · have hqk : (q : Int) < 2 := by omega
            obtain ⟨ga, gc, hga⟩ := HT.out.row.reads.shape
            obtain ⟨ba, bc, hgb⟩ := HT.out.being.shape
            have hgl := HT.out.row.reads.lenLe
            obtain ⟨hr1, hr2, hr3⟩ := HT.out.rlen
            have hop := torn_open HT.out
            unfold ptr at hop
            have hln := HT.out.len
            have HOP := Lib.hid hop
            have hb1 := HT.out.being.len
            obtain ⟨N, hN⟩ : ∃ N, all.length = N := ⟨_, rfl⟩
            obtain ⟨B, hB⟩ : ∃ N, bs.length = N := ⟨_, rfl⟩
            obtain ⟨R, hR⟩ : ∃ N, rs.length = N := ⟨_, rfl⟩
            have HNN := Lib.hid hN
            have HBB := Lib.hid hB
            have HRR := Lib.hid hR
            rw [hN] at hga hgl hr1 hr2 hln
            rw [hB] at hgb hr2 hb1
            rw [hR] at hr1 hr2 hr3
            clear hop hN hB hR
            have e1 : IntKind.i64.wrap ((N : Int) + (B : Int)) = (N : Int) + (B : Int) := IntWalk.i64_in _ (by omega)
            have e2 : ¬ ((N : Int) + (B : Int)) < (R : Int) := by omega
            have e3 : ¬ (R : Int) < (N : Int) := by omega
            subst hga
            subst hgb
            go_wp2_with fail
            refine HOP.out.mono ?_
            rintro e w5 ⟨n2, lv2, rfl, h5, h6⟩
            have HIN := Lib.hid h5
            have HT5 := Lib.hid h6
            have hl1 := inrow_len h5
            rw [HRR.out] at hl1
            unfold ptr at hl1
            have HL1 := Lib.hid hl1
            clear h5 h6 hl1
            go_wp2_with fail
            refine HL1.out.mono ?_
            rintro e w6 ⟨rfl, rfl⟩
            go_wp2_with fail
            refine HL1.out.mono ?_
            rintro e w6 ⟨rfl, rfl⟩
            have hrw := HT5.out.row
            have hbe := HT5.out.being
            have hrd : Reads w5 (.slice ga N gc) N (inCells all) := by
              have h1 := hrw.reads
              rw [HNN.out] at h1
              exact h1
            obtain ⟨hg1, hg2, hg3⟩ : N ≤ gc ∧ gc ≤ maxLen ∧ (ga = none → N = 0 ∧ gc = 0) := RowAt.caps (by rw [HNN.out] at hrw; exact hrw)
            have HRD := Lib.hid hrd
            have HBE := Lib.hid hbe
            unfold maxLen at hg2
            have HG3 := Lib.hid hg3
            clear hrw hbe hrd hg3
            go_upto_region 24 with fail
            go_cut [112, 113, 114] from 81 to 140 (fun rv ln ix wx => ln = .int .i64 ((N + B : Nat) : Int) ∧ ix = .int .i64 0 ∧ Hid (Below w5.heap.size w5 wx) ∧ Hid (Reads wx rv (N + B) (inCells (all ++ bs))))
            case first =>
              rcases HBE.out with ⟨hb0, hv0⟩ | ⟨x, g, hb0, hv0, hgx⟩
              · cases hv0
                have hap := fun ty => run_append_nil (P := Try.prog) (t := 39) (ty := ty) w5 Try.underlying39 hi0 hz0 ga N N (Nat.le_refl _) (fun e => ⟨(HG3.out e).1, (HG3.out e).1⟩)
                have hre : Reads w5 (.slice ga N N) (N + 0) (inCells (all ++ bs)) := by
                  rw [hb0, List.append_nil]
                  exact HRD.out.tight
                have HRE := Lib.hid hre
                clear hb0 hre
                cases ga with
                | none =>
                  obtain ⟨rfl, rfl⟩ := HG3.out rfl
                  go_wp2_with fail
                  go_meet
                  case rel => exact ⟨rfl, rfl, Lib.hid (Below.refl _ _), HRE⟩
                | some ad =>
                  go_wp2_with fail
                  go_meet
                  case rel => exact ⟨rfl, rfl, Lib.hid (Below.refl _ _), HRE⟩
              · cases hv0
                have hol : (inCells all).length = N * 3 := by rw [inCells_len, HNN.out]
                have HOL := Lib.hid hol
                have hnews : ∀ j u, [Value.int .i64 x.part, .int .i64 x.key, .int .i64 x.val][j]? = some u → w5.cell? ((⟨g, 0, none⟩ : Addr).add j) = some u := fun j u hj => by
                  rw [addr_add, Nat.zero_add]
                  exact cells_at hgx j u (by simpa using hj)
                have HNW := Lib.hid hnews
                have hcs : inCells (all ++ bs) = inCells all ++ [.int .i64 x.part, .int .i64 x.key, .int .i64 x.val] := by rw [hb0, inCells_snoc]
                have HCS := Lib.hid hcs
                clear hol hnews hcs hb0 hgx
                cases ga with
                | none =>
                  obtain ⟨rfl, rfl⟩ := HG3.out rfl
                  go_wp2_with (at_builtin; refine wpList_append_grows w5 rfl _ _ 39 rfl 32 i0 (.agg #[.int .i64 0, .int .i64 0, .int .i64 0]) 3 24 Try.underlying39 hi0 hz0 hz1 hz2 rfl (by decide) none 0 0 (inCells all) (by rfl) (fun _ => ⟨rfl, rfl⟩) HOL.out (fun b hb => by cases hb) ⟨g, 0, none⟩ 1 1 [.int .i64 x.part, .int .i64 x.key, .int .i64 x.val] (by rfl) rfl HNW.out (by simp [Value.oneCell']) (by omega) (by unfold maxLen; omega) (by omega) ?_)
                  intro v' w' hown hgrow
                  have hre : Reads w' v' (0 + 1) (inCells (all ++ bs)) := by
                    rw [HCS.out]
                    exact Reads.own hown
                  obtain ⟨va2, vc2, rfl⟩ := hre.shape
                  have HRE := Lib.hid hre
                  have HBL := Lib.hid (show Below w5.heap.size w5 w' from ⟨hgrow.os, hgrow.tape, hgrow.output, hgrow.size, fun k hk => hgrow.block k hk (by simp)⟩)
                  clear hown hgrow hre
                  go_wp2_with fail
                  go_meet
                  case rel => exact ⟨rfl, rfl, HBL, HRE⟩
                | some ad =>
                  go_wp2_with (at_builtin; refine wpList_append_grows w5 rfl _ _ 39 rfl 32 i0 (.agg #[.int .i64 0, .int .i64 0, .int .i64 0]) 3 24 Try.underlying39 hi0 hz0 hz1 hz2 rfl (by decide) (some ad) N N (inCells all) (by rfl) (fun e => by cases e) HOL.out (reads_ad HRD.out) ⟨g, 0, none⟩ 1 1 [.int .i64 x.part, .int .i64 x.key, .int .i64 x.val] (by rfl) rfl HNW.out (by simp [Value.oneCell']) (by omega) (by unfold maxLen; omega) (by omega) ?_)
                  intro v' w' hown hgrow
                  have hre : Reads w' v' (N + 1) (inCells (all ++ bs)) := by
                    rw [HCS.out]
                    exact Reads.own hown
                  obtain ⟨va2, vc2, rfl⟩ := hre.shape
                  have HRE := Lib.hid hre
                  have HBL := Lib.hid (show Below w5.heap.size w5 w' from ⟨hgrow.os, hgrow.tape, hgrow.output, hgrow.size, fun k hk => hgrow.block k hk (by simp)⟩)
                  clear hown hgrow hre
                  go_wp2_with fail
                  go_meet
                  case rel => exact ⟨rfl, rfl, HBL, HRE⟩
            case rest =>
              obtain ⟨rfl, rfl, HBL, HRE⟩ := hcut
              obtain ⟨rv, rfl⟩ : ∃ x, x = u112 := ⟨_, rfl⟩
              obtain ⟨va2, vc2, rfl⟩ := HRE.out.shape
              obtain ⟨M, hM⟩ : ∃ M, N + B = M := ⟨_, rfl⟩
              have HM2 := Lib.hid hM
              rw [hM] at HRE
              have hM1 : M ≤ 101 := by omega
              have hRM : R ≤ M := by omega
              rw [hM]
              clear hM
              go_wp2_with fail
              go_loopw [114] (fun i wz => ∃ s : Nat, s ≤ M ∧ i = .int .i64 (s : Int) ∧ Hid (Below w5.heap.size w5 wz) ∧ Hid (Below wc.heap.size wc wz)) (fun i _ => M - (intOf i).toNat)
              case atStart => exact ⟨0, Nat.zero_le _, rfl, HBL, Lib.hid (Below.refl _ _)⟩
              case round =>
                obtain ⟨s, hs, rfl, HB, HBC⟩ := hrel
                by_cases hlt2 : s < M
                · have hMl : (all ++ bs).length = M := by rw [List.length_append, HNN.out, HBB.out, HM2.out]
                  obtain ⟨x, hx⟩ : ∃ x, (all ++ bs)[s]? = some x := ⟨(all ++ bs)[s]'(by omega), by simp⟩
                  have hsk : (s : Int) < (M : Int) := by omega
                  have hs0 : ¬ (s : Int) < 0 := by omega
                  obtain ⟨b, o, cap, hv, hcap, hcm, hblt, hcells⟩ := HRE.out.some (by omega)
                  cases hv
                  have hblt' := hblt
                  obtain ⟨j0, j1, j2⟩ := inCells_at (all ++ bs) s x hx
                  have r0 := (World.cell?_of_block (HBC.out.block b hblt)).trans (hcells _ _ j0)
                  have r1 := (World.cell?_of_block (HBC.out.block b hblt)).trans (hcells _ _ j1)
                  have r2 := (World.cell?_of_block (HBC.out.block b hblt)).trans (hcells _ _ j2)
                  rw [← Nat.add_assoc] at r1 r2
                  have hat' := HT5.out.at' s
                  have HB1 := Lib.hid (bel_trans HB.out (bel_alloc wr (.cells #[.int .i64 x.part, .int .i64 x.key, .int .i64 x.val] 32)))
                  have HC1 := Lib.hid (bel_trans HBC.out (bel_alloc wr (.cells #[.int .i64 x.part, .int .i64 x.key, .int .i64 x.val] 32)))
                  have HX1 := Lib.hid (heap_alloc_new wr (.cells #[.int .i64 x.part, .int .i64 x.key, .int .i64 x.val] 32))
                  by_cases hsR : s < R
                  · have hx' : rs[s]? = some x := by rw [hat' (by rw [HRR.out]; exact hsR), hx]
                    have hat1 := inrow_at (HIN.out.below HB1.out) s (by rw [HRR.out]; omega) x hx'
                    have HAT1 := Lib.hid hat1
                    have hsR2 : (s : Int) < (R : Int) := by omega
                    clear j0 j1 j2 hcells hx hat' hx' hMl hblt' hat1
                    obtain ⟨p, kk, vv⟩ := x
                    simp only at r0 r1 r2
                    unfold InR.val' ptr at HAT1
                    go_wp2_with fail
                    refine HAT1.out.mono ?_
                    rintro e w7 ⟨rfl, hb7⟩
                    have hx7 := (hb7.block _ (by simp)).trans HX1.out
                    have hx8 := (Below.heap_alloc w7 (.cells #[.int .i64 p, .int .i64 kk, .int .i64 vv] 32) _ ((Array.getElem?_eq_some_iff.1 hx7).1)).trans hx7
                    have hy8 := heap_alloc_new w7 (.cells #[.int .i64 p, .int .i64 kk, .int .i64 vv] 32)
                    have x0 := cells_at hx8 0 _ rfl
                    have x1 := cells_at hx8 1 _ rfl
                    have x2 := cells_at hx8 2 _ rfl
                    have y0 := cells_at hy8 0 _ rfl
                    have y1 := cells_at hy8 1 _ rfl
                    have y2 := cells_at hy8 2 _ rfl
                    simp only [List.getElem_toArray, List.getElem_cons_zero, List.getElem_cons_succ] at x0 x1 x2 y0 y1 y2
                    have hl8 := inrow_len ((HIN.out.below HB1.out).below (bel_trans hb7 (bel_alloc w7 (.cells #[.int .i64 p, .int .i64 kk, .int .i64 vv] 32))))
                    rw [HRR.out] at hl8
                    unfold ptr at hl8
                    have HL8 := Lib.hid hl8
                    have HB8 := Lib.hid (bel_trans (bel_trans HB1.out hb7) (bel_alloc w7 (.cells #[.int .i64 p, .int .i64 kk, .int .i64 vv] 32)))
                    have HC8 := Lib.hid (bel_trans (bel_trans HC1.out hb7) (bel_alloc w7 (.cells #[.int .i64 p, .int .i64 kk, .int .i64 vv] 32)))
                    clear hb7 hx7 hx8 hy8 hl8
                    go_wp2_with fail
                    refine HL8.out.mono ?_
                    rintro e w8 ⟨rfl, rfl⟩
                    go_wp2_with fail
                    go_roundw
                    case rel => exact ⟨s + 1, by omega, by go_num, HB8, HC8⟩
                    case measure => simp [intOf]; omega
                  · have hat1 := inrow_range (HIN.out.below HB1.out) (s : Int) hs0 (by rw [HRR.out]; omega)
                    have HAT1 := Lib.hid hat1
                    have hsR2 : ¬ (s : Int) < (R : Int) := by omega
                    clear j0 j1 j2 hcells hx hat' hMl hblt' hat1
                    obtain ⟨p, kk, vv⟩ := x
                    simp only at r0 r1 r2
                    unfold ptr at HAT1
                    go_wp2_with fail
                    refine HAT1.out.mono ?_
                    rintro e w7 ⟨rfl, hb7⟩
                    have hl8 := inrow_len ((HIN.out.below HB1.out).below (bel_trans hb7 (bel_alloc w7 (.cells #[.int .i64 0, .int .i64 0, .int .i64 0] 32))))
                    rw [HRR.out] at hl8
                    unfold ptr at hl8
                    have HL8 := Lib.hid hl8
                    have HB8 := Lib.hid (bel_trans (bel_trans HB1.out hb7) (bel_alloc w7 (.cells #[.int .i64 0, .int .i64 0, .int .i64 0] 32)))
                    have HC8 := Lib.hid (bel_trans (bel_trans HC1.out hb7) (bel_alloc w7 (.cells #[.int .i64 0, .int .i64 0, .int .i64 0] 32)))
                    clear hb7 hl8
                    go_wp2_with fail
                    refine HL8.out.mono ?_
                    rintro e w8 ⟨rfl, rfl⟩
                    go_wp2_with fail
                    go_roundw
                    case rel => exact ⟨s + 1, by omega, by go_num, HB8, HC8⟩
                    case measure => simp [intOf]; omega
                · have hse : s = M := by omega
                  subst hse
                  have hss : ¬ (s : Int) < (s : Int) := by omega
                  clear hlt2
                  have hcr := torn_crash0 (torn_below HT5.out HB.out)
                  unfold ptr at hcr
                  go_wp2_with fail
                  refine hcr.mono ?_
                  clear hcr
                  rintro e w7 ⟨rfl, h7⟩
                  have H7 := Lib.hid h7
                  clear h7
                  go_wp2_with fail
                  go_roundw
                  case rel => exact ⟨q + 1, by omega, by go_num, H7⟩
                  case measure => simp [intOf]; omega
          · have hqe : q = 2 := by omega
            subst hqe
            clear hlt
            go_wp2_with fail
            refine (inworks_any _).mono ?_
            rintro e w6 ⟨rfl, hb⟩
            have H := Lib.hid (torn_below HT.out hb)
            clear hb
            go_wp2_with fail
            go_ret
            obtain ⟨D, t, h1, -, -⟩ := H.out.ex
            exact ⟨rfl, h1.old.bel⟩

end Go.Proofs.Ytllecjhfbojgcaa
