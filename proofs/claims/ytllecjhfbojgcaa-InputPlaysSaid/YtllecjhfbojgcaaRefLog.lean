/-
  The reference's log in memory; Open, Put, Sync walked.
-/
import Derived.Test.YtllecjhfbojgcaaRefCalls
import Derived.Test.YtllecjhfbojgcaaFrameRefT
import Derived.Test.YtllecjhfbojgcaaLogOpen2
import Derived.Test.YtllecjhfbojgcaaFr
import Derived.Deep.QuietTactic
import Derived.BigQuiet
import Derived.StillTailTactics
namespace Go.Proofs.Ytllecjhfbojgcaa
open Go.RowKit
set_option maxRecDepth 20000

def rfCells (rs : List Lg.Rec) : List Value := rs.flatMap fun r => [.int .u8 (r.kind.toNat : Int), .string r.text]
theorem rfCells_snoc (rs : List Lg.Rec) (r : Lg.Rec) : rfCells (rs ++ [r]) = rfCells rs ++ [.int .u8 (r.kind.toNat : Int), .string r.text] := by simp [rfCells]
theorem rfCells_len (rs : List Lg.Rec) : (rfCells rs).length = rs.length * 2 := by
  induction rs with
  | nil => rfl
  | cons r rs ih => rw [List.length_cons, Nat.add_mul, ← ih]; simp [rfCells]
theorem rfCells_one (rs : List Lg.Rec) : ∀ u ∈ rfCells rs, u.oneCell' = true := by
  intro u hu
  obtain ⟨r, -, hr⟩ := List.mem_flatMap.1 hu
  simp only [List.mem_cons, List.not_mem_nil, or_false] at hr
  rcases hr with rfl | rfl <;> simp [Value.oneCell']
theorem rfCells_at (rs : List Lg.Rec) : ∀ (k : Nat) (r : Lg.Rec), rs[k]? = some r → (rfCells rs)[k * 2]? = some (.int .u8 (r.kind.toNat : Int)) ∧ (rfCells rs)[k * 2 + 1]? = some (.string r.text) := by
  induction rs with
  | nil => intro k r h; simp at h
  | cons y rs ih =>
    intro k r h
    cases k with
    | zero =>
      simp only [List.getElem?_cons_zero, Option.some.injEq] at h
      subst h
      exact ⟨rfl, rfl⟩
    | succ k =>
      obtain ⟨h1, h2⟩ := ih k r (by simpa using h)
      rw [show (k + 1) * 2 = k * 2 + 1 + 1 by omega]
      exact ⟨h1, h2⟩
theorem rf_of_fr (items : List (Nat × List UInt8)) (h : ∀ y ∈ items, ∃ c : UInt8, y.1 = c.toNat ∧ c.toNat ≠ 0 ∧ y.2.length ≤ 65536) : rfCells (Lg.recsOf items) = frCells items := by
  induction items with
  | nil => rfl
  | cons y items ih =>
    have h1 := ih (fun x hx => h x (List.mem_cons_of_mem _ hx))
    obtain ⟨c, hc, -, -⟩ := h y (by simp)
    show [Value.int .u8 ((UInt8.ofNat y.1).toNat : Int), .string ⟨y.2.toArray⟩] ++ rfCells (Lg.recsOf items) = [.int .u8 y.1, .string ⟨y.2.toArray⟩] ++ frCells items
    rw [h1, hc, of_toNat]

/-- The reference's log at l over the disk at r. -/
structure RLogAt (w : World) (l r : Nat) (file : Int) (L : Lg.St) (G : Nat → Prop) : Prop where
  mem : G l
  lt : ∀ k, G k → k < w.heap.size
  size : L.rs.length ≤ 1000000000
  sure : L.sure ≤ L.rs.length
  cells : ∃ lv, w.heap[l]? = some (.cells #[ptr r 0, .int .i64 file, lv, .int .i64 (L.sure : Int)] 126) ∧ w.ownsRow 0 128 2 lv L.rs.length (rfCells L.rs) ∧ ∀ g, lv.ownBlock = some g → G g

theorem RLogAt.kept {w w' : World} {l r : Nat} {file : Int} {L : Lg.St} {G : Nat → Prop} (h : RLogAt w l r file L G) (hk : ∀ k, G k → w'.heap[k]? = w.heap[k]?) (hs : w.heap.size ≤ w'.heap.size) : RLogAt w' l r file L G := by
  obtain ⟨lv, h1, h2, h3⟩ := h.cells
  exact ⟨h.mem, fun k hk' => Nat.lt_of_lt_of_le (h.lt k hk') hs, h.size, h.sure, lv, (hk l h.mem).trans h1, own_kept h2 (fun g hg => hk g (h3 g hg)), h3⟩
theorem RLogAt.below {w w' : World} {l r : Nat} {file : Int} {L : Lg.St} {G : Nat → Prop} (h : RLogAt w l r file L G) (hb : Below w.heap.size w w') : RLogAt w' l r file L G := h.kept (fun k hk => hb.block k (h.lt k hk)) hb.size
theorem RLogAt.only {w w' : World} {l r : Nat} {file : Int} {L : Lg.St} {F G : Nat → Prop} (h : RLogAt w l r file L G) (hb : Only F w w') (hd : ∀ k, G k → ¬ F k) : RLogAt w' l r file L G := h.kept (fun k hk => hb.block k (h.lt k hk) (hd k hk)) hb.size

/-- What a call leaves of a disk and a log over it. -/
def RTurned2 (w w' : World) (l r : Nat) (file : Int) (D' : Dk.St) (L' : Lg.St) (F G : Nat → Prop) : Prop :=
  ∃ F' G', Only (fun k => F k ∨ G k) w w' ∧ RDAt w' r D' F' ∧ RLogAt w' l r file L' G' ∧ (∀ k, F' k → ¬ G' k) ∧ (∀ k, F' k → F k ∨ w.heap.size ≤ k) ∧ (∀ k, G' k → G k ∨ w.heap.size ≤ k)
theorem RTurned2.below {w w' : World} {l r : Nat} {file : Int} {D : Dk.St} {L : Lg.St} {F G : Nat → Prop} (hd : RDAt w r D F) (hl : RLogAt w l r file L G) (hne : ∀ k, F k → ¬ G k) (hb : Below w.heap.size w w') : RTurned2 w w' l r file D L F G :=
  ⟨F, G, Only.below hb, hd.below hb, hl.below hb, hne, fun _ h => .inl h, fun _ h => .inl h⟩
theorem RTurned2.disk {w w' : World} {l r : Nat} {file : Int} {D' : Dk.St} {L : Lg.St} {F G : Nat → Prop} (hl : RLogAt w l r file L G) (hne : ∀ k, F k → ¬ G k) (ht : RTurned w w' r D' F) : RTurned2 w w' l r file D' L F G := by
  obtain ⟨F', h1, h2, h3⟩ := ht
  refine ⟨F', G, h1.mono (fun _ h => .inl h), h2, hl.only h1 (fun k hk hf => hne k hf hk), fun k hk hg => ?_, h3, fun _ h => .inl h⟩
  rcases h3 k hk with h | h
  · exact hne k h hg
  · have := hl.lt k hg; omega
theorem RTurned2.after {w w1 w' : World} {l r : Nat} {file : Int} {D : Dk.St} {L : Lg.St} {F G : Nat → Prop} (hb : Below w.heap.size w w1) (h : RTurned2 w1 w' l r file D L F G) : RTurned2 w w' l r file D L F G := by
  obtain ⟨F', G', h1, h2, h3, h4, h5, h6⟩ := h
  have hs := hb.size
  refine ⟨F', G', (Only.below hb).trans h1, h2, h3, h4, fun k hk => ?_, fun k hk => ?_⟩
  · rcases h5 k hk with h | h
    · exact .inl h
    · exact .inr (by omega)
  · rcases h6 k hk with h | h
    · exact .inl h
    · exact .inr (by omega)
theorem RTurned2.drew {w w1 w' : World} {l r : Nat} {file : Int} {D : Dk.St} {L : Lg.St} {F G : Nat → Prop} (h : RTurned2 w w1 l r file D L F G) (hb : Below w1.heap.size w1 w') : RTurned2 w w' l r file D L F G := by
  obtain ⟨F', G', h1, h2, h3, h4, h5, h6⟩ := h
  exact ⟨F', G', h1.trans (Only.below hb), h2.below hb, h3.below hb, h4, h5, h6⟩

/-- How many are sure is written anew. -/
theorem RLogAt.setSure {w : World} {l r : Nat} {file : Int} {L : Lg.St} {G : Nat → Prop} (h : RLogAt w l r file L G) (n : Nat) (hn : n ≤ L.rs.length) :
    Only (fun k => k = l) w (w.setCell ⟨l, 3, none⟩ (.int .i64 (n : Int))) ∧ RLogAt (w.setCell ⟨l, 3, none⟩ (.int .i64 (n : Int))) l r file { L with sure := n } G := by
  obtain ⟨lv, h1, h2, h3⟩ := h.cells
  have hon : Only (fun k => k = l) w (w.setCell ⟨l, 3, none⟩ (.int .i64 (n : Int))) := Only.setCell (fun k => k = l) w ⟨l, 3, none⟩ _ rfl
  refine ⟨hon, h.mem, fun k hk => Nat.lt_of_lt_of_le (h.lt k hk) hon.size, h.size, hn, lv, ?_, ?_, h3⟩
  · rw [cells_set h1]
    rfl
  · refine own_kept h2 (fun g hg => Below.heap_setCell _ _ _ _ (fun e => ?_))
    rcases h2.2 with hh | ⟨g', cap', cur, hv, _, hcc, _⟩
    · rw [hh.1] at hg; cases hg
    · rw [hv] at hg
      simp only [Value.ownBlock, Option.some.injEq] at hg
      subst hg
      exact far hcc h1 (by decide) e

set_option maxHeartbeats 1000000 in
theorem rlogsync_any (w : World) (l d : Nat) (file : Int) (D : Dk.St) (L : Lg.St) (F G : Nat → Prop) (hd : RDAt w d D F) (h : RLogAt w l d file L G) (hne : ∀ k, F k → ¬ G k) :
    Calls Try.prog 68 #[ptr l 0] w fun e w' => e = .returned (.int .i64 (Lg.sync D L).1) ∧ RTurned2 w w' l d file (Lg.sync D L).2.1 (Lg.sync D L).2.2 F G := by
  obtain ⟨lv, hc, hr, hg⟩ := h.cells
  obtain ⟨⟨c0, -, c2, c3⟩, -, -⟩ := logcell hc
  obtain ⟨a, c, rfl⟩ := (Reads.own hr).shape
  have hlen := (Reads.own hr).lenLe
  unfold maxLen at hlen
  have HD := Lib.hid hd
  have HL := Lib.hid h
  have HNE := Lib.hid hne
  have hsure := h.sure
  have hlt : l < w.heap.size := h.lt l h.mem
  unfold ptr at c0
  unfold Lg.sync
  by_cases hs : L.sure = L.rs.length
  · rw [if_pos hs]
    have hq : ((L.sure : Int) == (L.rs.length : Int)) = true := by simp [hs]
    have hq2 : (L.sure == L.rs.length) = true := by simp [hs]
    clear h hd hne hc hr hg hs
    unfold ptr
    go_enter Try.func68, Try.ntmps68
    go_wp2_with fail
    go_quiet (fail)
    go_wp2_with fail
    go_ret
    exact ⟨rfl, RTurned2.below HD.out HL.out HNE.out (bel_drewN _ _)⟩
  · rw [if_neg hs]
    have hq : ((L.sure : Int) == (L.rs.length : Int)) = false := by simp; omega
    have hq2 : (L.sure == L.rs.length) = false := by simp; omega
    obtain ⟨e, D', hsy⟩ : ∃ e D', Dk.sync D = (e, D') := ⟨_, _, rfl⟩
    rw [hsy]
    have HSY := Lib.hid hsy
    clear h hd hne hc hr hg hs hsy
    by_cases he : e = 0
    · subst he
      rw [if_pos rfl]
      unfold ptr
      go_enter Try.func68, Try.ntmps68
      go_wp2_with fail
      go_quiet (fail)
      generalize hU : w.drewN _ = U
      have hDU : RDAt U d D F := by rw [← hU]; exact HD.out.below (bel_drewN _ _)
      have hLU : RLogAt U l d file L G := by rw [← hU]; exact HL.out.below (bel_drewN _ _)
      have hbU : Below w.heap.size w U := by rw [← hU]; exact bel_drewN _ _
      have c0 : U.cell? ⟨l, 0, none⟩ = some (.pointer (some ⟨d, 0, none⟩)) := by rw [← hU]; exact c0
      have HDU := Lib.hid hDU
      have HLU := Lib.hid hLU
      have HBU := Lib.hid hbU
      clear hU hDU hLU hbU
      go_wp2_with fail
      refine (rsync_any U d D F HDU.out).mono ?_
      rintro e w1 ⟨rfl, ht1⟩
      rw [HSY.out] at ht1 ⊢
      obtain ⟨F1, ho1, hD1, hF1⟩ := ht1
      have hL1 := HLU.out.only ho1 (fun k hk e => HNE.out k e hk)
      obtain ⟨lv1, hc1, hr1, -⟩ := hL1.cells
      obtain ⟨⟨c0, c1, c2, c3⟩, f2, f3⟩ := logcell hc1
      obtain ⟨a1, c1, rfl⟩ := (Reads.own hr1).shape
      have HO1 := Lib.hid ho1
      have HD1 := Lib.hid hD1
      have HL1 := Lib.hid hL1
      have HF1 := Lib.hid hF1
      clear ho1 hD1 hL1 hc1 hr1 hF1
      go_wp2_with fail
      go_ret
      obtain ⟨s1, s2⟩ := HL1.out.setSure L.rs.length (Nat.le_refl _)
      have hdis : ∀ k, F1 k → ¬ G k := fun k hk hg => by
        rcases HF1.out k hk with h | h
        · exact HNE.out k h hg
        · have := HLU.out.lt k hg; omega
      refine ⟨rfl, RTurned2.after HBU.out ⟨F1, G, ?_, HD1.out.only s1 (fun k hk e => hdis k hk (e ▸ HL1.out.mem)), s2, hdis, HF1.out, fun _ h => .inl h⟩⟩
      exact (HO1.out.mono (fun _ h => .inl h)).trans (s1.mono (fun i e => .inr (e ▸ HL1.out.mem)))
    · rw [if_neg he]
      have hz : (e == 0) = false := by simpa using he
      clear he
      unfold ptr
      go_enter Try.func68, Try.ntmps68
      go_wp2_with fail
      go_quiet (fail)
      generalize hU : w.drewN _ = U
      have hDU : RDAt U d D F := by rw [← hU]; exact HD.out.below (bel_drewN _ _)
      have hLU : RLogAt U l d file L G := by rw [← hU]; exact HL.out.below (bel_drewN _ _)
      have hbU : Below w.heap.size w U := by rw [← hU]; exact bel_drewN _ _
      have c0 : U.cell? ⟨l, 0, none⟩ = some (.pointer (some ⟨d, 0, none⟩)) := by rw [← hU]; exact c0
      have HDU := Lib.hid hDU
      have HLU := Lib.hid hLU
      have HBU := Lib.hid hbU
      clear hU hDU hLU hbU
      go_wp2_with fail
      refine (rsync_any U d D F HDU.out).mono ?_
      rintro e w1 ⟨rfl, ht1⟩
      rw [HSY.out] at ht1 ⊢
      have HT := Lib.hid ht1
      clear ht1
      go_wp2_with fail
      go_ret
      exact ⟨rfl, RTurned2.after HBU.out (RTurned2.disk HLU.out HNE.out HT.out)⟩

/-- An append, to a row that is not nil, of a row that is read; none, too: in a list that draws no order. -/
theorem wpList_append_reads {P : Program} (w : World) {ops : Array Oper} {rest : List Oper} {o : Oper} {a : Act} {Q : Exit → Act → World → Prop} (hgd : o.guard = none) (s x : Operand) (t : TypeId)
    (ho : o.op = .call { callee := .builtin .append, args := #[s, x], argTypes := #[t, t] })
    (base : Nat) (e : TypeId) (i : TypeInfo) (z : Value) (size bytes : Nat) (ht : P.underlying t = some (.slice e)) (hi : P.info? e = some i) (hz : i.zero = some z)
    (hsize : i.size = size) (hby : i.bytes = bytes) (hzs : z.cells.size = size) (hsz : 0 < size)
    (b : Nat) (n c : Nat) (xs : List Value) (hs : a.eval s = .slice (some ⟨b, 0, none⟩) n c) (hown : w.ownsRow base e size (.slice (some ⟨b, 0, none⟩) n c) n xs)
    (xv : Value) (m : Nat) (news : List Value) (hx : a.eval x = xv) (hr : Reads w xv m news) (hl : news.length = m * size) (h1 : ∀ u ∈ news, u.oneCell' = true)
    (h63 : n + m ≤ maxLen) (hbytes : (n + m) * bytes ≤ 140737488355328) (hbase : base ≤ w.heap.size)
    (h : ∀ g cap w', w'.ownsRow base e size (.slice (some ⟨g, 0, none⟩) (n + m) cap) (n + m) (xs ++ news) → w.grownBy w' (some b) → (g = b ∨ g = w.heap.size) → wpList P ops Q rest (a.put o.dst (.slice (some ⟨g, 0, none⟩) (n + m) cap)) w') : wpList P ops Q (o :: rest) a w :=
  wpList_plain hgd fun _ hK => wp_append_reads w s x t ho base e i z size bytes ht hi hz hsize hby hzs hsz b n c xs hs hown xv m news hx hr hl h1 h63 hbytes hbase (fun g cap w' h2 h3 h4 => hK _ _ (h g cap w' h2 h3 h4))

/-- Behind the append of a record, and the store of the row. -/
theorem rputrec_end {w W w3 : World} {l d g cap : Nat} {file : Int} {L : Lg.St} {G : Nat → Prop} {lv : Value} {r : Lg.Rec}
    (h : RLogAt w l d file L G) (hc : w.heap[l]? = some (.cells #[ptr d 0, .int .i64 file, lv, .int .i64 (L.sure : Int)] 126))
    (hW : Below w.heap.size w W) (h3 : Below W.heap.size W w3) (hown : w3.ownsRow W.heap.size 128 2 (.slice (some ⟨g, 0, none⟩) (L.rs.length + 1) cap) (L.rs.length + 1) (rfCells L.rs ++ [.int .u8 (r.kind.toNat : Int), .string r.text])) (hsz : L.rs.length + 1 ≤ 1000000000) :
    ∃ G', Only (fun k => G k) w (w3.setCell ⟨l, 2, none⟩ (.slice (some ⟨g, 0, none⟩) (L.rs.length + 1) cap)) ∧ RLogAt (w3.setCell ⟨l, 2, none⟩ (.slice (some ⟨g, 0, none⟩) (L.rs.length + 1) cap)) l d file { L with rs := L.rs ++ [r] } G' ∧ (∀ k, G' k → G k ∨ w.heap.size ≤ k) := by
  have hlt := h.lt l h.mem
  have hWs := hW.size
  have h3s := h3.size
  have hg : W.heap.size ≤ g ∧ g < w3.heap.size := by
    rcases hown.2 with ⟨h, -⟩ | ⟨g', cap', cur, hv, h2, h3, _⟩
    · cases h
    · simp only [Value.slice.injEq, Option.some.injEq, Addr.mk.injEq] at hv
      have := (Array.getElem?_eq_some_iff.1 h3).1
      omega
  have hc3 := (h3.block l (by omega)).trans ((hW.block l hlt).trans hc)
  have hset : ∀ k, k ≠ l → (w3.setCell ⟨l, 2, none⟩ (.slice (some ⟨g, 0, none⟩) (L.rs.length + 1) cap)).heap[k]? = w3.heap[k]? := fun k hk => Below.heap_setCell _ _ _ _ (by exact hk)
  refine ⟨fun k => G k ∨ k = g, ?_, ⟨.inl h.mem, fun k hk => ?_, ?_, ?_, .slice (some ⟨g, 0, none⟩) (L.rs.length + 1) cap, ?_, ?_, fun b hb => ?_⟩, fun k hk => ?_⟩
  · exact ((Only.below hW).trans (Only.below h3)).trans (Only.setCell _ _ ⟨l, 2, none⟩ _ h.mem)
  · simp only [World.size_setCell]
    rcases hk with hk | hk
    · have := h.lt k hk; omega
    · omega
  · show (L.rs ++ [r]).length ≤ _
    rw [List.length_append, List.length_singleton]
    exact hsz
  · have := h.sure
    show L.sure ≤ (L.rs ++ [r]).length
    rw [List.length_append]
    omega
  · rw [cells_set hc3]
    rfl
  · show World.ownsRow _ 0 _ 2 _ (L.rs ++ [r]).length _
    rw [List.length_append, rfCells_snoc]
    obtain ⟨o1, o2⟩ := own_kept hown (w' := w3.setCell ⟨l, 2, none⟩ (.slice (some ⟨g, 0, none⟩) (L.rs.length + 1) cap)) (fun b hb => by
      simp only [Value.ownBlock, Option.some.injEq] at hb
      subst hb
      exact hset _ (by omega))
    refine ⟨o1, ?_⟩
    rcases o2 with o2 | ⟨g', cap', cur, hv, h2, h3⟩
    · exact .inl o2
    · exact .inr ⟨g', cap', cur, hv, Nat.zero_le _, h3⟩
  · simp only [Value.ownBlock, Option.some.injEq] at hb
    exact .inr hb.symm
  · rcases hk with hk | hk
    · exact .inl hk
    · exact .inr (by omega)

theorem rput_turned {w w1 w2 X : World} {l d : Nat} {file : Int} {D' : Dk.St} {L L' : Lg.St} {F F' G : Nat → Prop} (hb : Below w.heap.size w w1) (hl1 : RLogAt w1 l d file L G) (hne : ∀ k, F k → ¬ G k)
    (ho2 : Only F w1 w2) (hd2 : RDAt w2 d D' F') (hF : ∀ k, F' k → F k ∨ w1.heap.size ≤ k) (hx : ∃ G', Only (fun k => G k) w2 X ∧ RLogAt X l d file L' G' ∧ (∀ k, G' k → G k ∨ w2.heap.size ≤ k)) : RTurned2 w X l d file D' L' F G := by
  obtain ⟨G', hox, hlx, hG⟩ := hx
  have hs1 := hb.size
  have hs2 := ho2.size
  have hdis : ∀ k, F' k → ¬ G k := fun k hk hg => by
    rcases hF k hk with h | h
    · exact hne k h hg
    · have := hl1.lt k hg; omega
  refine ⟨F', G', ((Only.below hb).trans (ho2.mono (fun _ h => .inl h))).trans (hox.mono (fun _ h => .inr h)), hd2.only hox hdis, hlx, fun k hk hg => ?_, fun k hk => ?_, fun k hk => ?_⟩
  · rcases hG k hg with h | h
    · exact hdis k hk h
    · have := hd2.lt k hk; omega
  · rcases hF k hk with h | h
    · exact .inl h
    · exact .inr (by omega)
  · rcases hG k hk with h | h
    · exact .inl h
    · exact .inr (by omega)

set_option maxHeartbeats 4000000 in
set_option maxRecDepth 100000 in
theorem rlogput_good (w : World) (l d : Nat) (file : Int) (D : Dk.St) (L : Lg.St) (F G : Nat → Prop) (hd : RDAt w d D F) (h : RLogAt w l d file L G) (hne : ∀ k, F k → ¬ G k) (r : Lg.Rec) (hk0 : r.kind.toNat ≠ 0) (hsz : r.text.size ≤ 65536) (hm : D.loose.length ≤ 1000000000) (hbig : L.rs.length ≤ 900000000) :
    Calls Try.prog 66 #[ptr l 0, .int .u8 (r.kind.toNat : Int), .string r.text] w fun e w' => e = .returned (.int .i64 (Lg.put D file L r).1) ∧ RTurned2 w w' l d file (Lg.put D file L r).2.1 (Lg.put D file L r).2.2 F G := by
  have hg : Lg.putE r.kind r.text = 0 := by unfold Lg.putE; rw [if_neg hk0, if_neg (by omega)]
  obtain ⟨hf1, hf2⟩ := frame_size r hsz
  obtain ⟨fb, hfb⟩ : ∃ fb : ByteArray, (⟨(Lg.frameB r).toArray⟩ : ByteArray) = fb := ⟨_, rfl⟩
  have hput : Lg.put D file L r = if (Dk.append D file fb).1 ≠ 0 then ((Dk.append D file fb).1, (Dk.append D file fb).2, L) else (0, (Dk.append D file fb).2, { L with rs := L.rs ++ [r] }) := by
    unfold Lg.put
    rw [if_neg (by simpa using hg), hfb]
  obtain ⟨e, D', hap⟩ : ∃ e D', Dk.append D file fb = (e, D') := ⟨_, _, rfl⟩
  rw [hap] at hput
  simp only at hput
  have HD := Lib.hid hd
  have HL := Lib.hid h
  have HNE := Lib.hid hne
  have HAP := Lib.hid hap
  have HM := Lib.hid hm
  have HBIG := Lib.hid hbig
  have HK0 := Lib.hid hk0
  have HSZ := Lib.hid hsz
  have HFB := Lib.hid hfb
  obtain ⟨k, t⟩ := r
  obtain ⟨i0, hi0, hz0, hz1, hz2⟩ := info_parts infoFr
  have hpf := refputf_ok k t w HK0.out HSZ.out
  rw [show (Cl.putF k t.data.toList) = Lg.frameB ⟨k, t⟩ from rfl, hfb] at hpf
  have HPF := Lib.hid hpf
  obtain ⟨Z, hZ⟩ : ∃ Z, Lg.put D file L ⟨k, t⟩ = Z := ⟨_, rfl⟩
  rw [hZ] at hput ⊢
  have HPUT := Lib.hid hput
  clear hd h hne hg hm hbig hk0 hsz hf1 hf2 hfb hput hap hpf hZ
  unfold ptr
  go_enter Try.func66, Try.ntmps66
  go_wp2_with fail
  refine HPF.out.mono ?_
  rintro e w1 ⟨rfl, hb1⟩
  have hL1 := HL.out.below hb1
  obtain ⟨lv1, hc1, hr1, hg1⟩ := hL1.cells
  obtain ⟨⟨c0, c1, -, -⟩, -, -⟩ := logcell hc1
  unfold ptr at c0
  have HD1 := Lib.hid ((HD.out.below hb1).below (bel_drew w1))
  have HL1 := Lib.hid (hL1.below (bel_drew w1))
  have HB1 := Lib.hid (bel_trans hb1 (bel_drew w1))
  clear hb1 hL1 hc1 hr1 hg1
  go_wp2_with fail
  refine wp_region_still_tail 9 (by kernel_rfl) (by kernel_rfl) ?_
  simp only [List.take_succ_cons, List.take_zero, List.drop_succ_cons, List.drop_zero]
  change wpStill _ _ w1.drew (fun a' => wpList _ _ _ _ a' w1.drew) _ _
  repeat still_step
  refine wpStill_nil ?_
  go_wp2_with fail
  refine (rappend_any w1.drew d D F HD1.out file fb HM.out).mono ?_
  rintro e w2 ⟨rfl, ht⟩
  rw [HAP.out] at ht ⊢
  by_cases he : e = 0
  · subst he
    obtain ⟨F', ho2, hD2, hF'⟩ := ht
    have hL2 := HL1.out.only ho2 (fun k hk hf => HNE.out k hf hk)
    obtain ⟨lv2, hc2, hr2, hg2⟩ := hL2.cells
    have hrr := Reads.own hr2
    obtain ⟨la, lc, rfl⟩ := hrr.shape
    obtain ⟨⟨-, -, c2, -⟩, f2, -⟩ := logcell hc2
    have hlt2 : l < w2.heap.size := (Array.getElem?_eq_some_iff.1 hc2).1
    have hnb : L.rs.length ≤ 900000000 := HBIG.out
    have HO2 := Lib.hid ho2
    have HD2 := Lib.hid hD2
    have HF' := Lib.hid hF'
    have HL2 := Lib.hid hL2
    have HC2 := Lib.hid hc2
    have HRR := Lib.hid hrr
    clear ho2 hD2 hF' hL2 hc2 hr2 hg2 hrr c0 c1
    have hown0 := own_lit2 w2 #[] 128 w2.heap.size 0 2 w2.heap.size rfl rfl (by decide) (Nat.le_refl _)
    have hbV := bel_alloc w2 (.cells #[] 128)
    have hsV : (w2.alloc (.cells #[] 128)).heap.size = w2.heap.size + 1 := by simp
    have HRV := Lib.hid (HRR.out.below hbV)
    have HV0 := Lib.hid hbV
    have HS0 := Lib.hid hsV
    have HOWN0 := Lib.hid hown0
    have q2 := (World.cell?_of_block (hbV.block l hlt2)).trans c2
    have qf := (World.frozen?_of_block (hbV.block l hlt2)).trans f2
    clear hbV hsV hown0 f2
    go_wp2_with (at_builtin; refine wpList_append_reads (w2.alloc (.cells #[] 128)) rfl _ _ 124 rfl w2.heap.size 128 i0 _ 2 24 Try.underlying124 hi0 hz0 hz1 hz2 rfl (by omega) w2.heap.size 0 0 [] (by rfl) HOWN0.out (.slice la L.rs.length lc) L.rs.length (rfCells L.rs) (by rfl) HRV.out (rfCells_len _) (rfCells_one _) (by unfold maxLen; omega) (by omega) (by have := HS0.out; omega) ?_)
    intro g6 c6 V6 hown6 hgr6 hat6
    have hbV6 := grown_bel HV0.out HOWN0.out hgr6
    have hlV6 : l < V6.heap.size := by have := hbV6.size; omega
    have y2 := (World.cell?_of_block (hbV6.block l hlt2)).trans c2
    have HB6 := Lib.hid hbV6
    have HOWN6 := Lib.hid hown6
    clear hown6 hgr6 hbV6 c2 q2 qf
    have hfz := cells_free HC2.out 2
    have yf := (World.frozen?_of_block (HB6.out.block l hlt2)).trans hfz
    clear hfz
    go_wp2_with (at_builtin; refine wpList_append_own _ rfl _ _ 124 rfl w2.heap.size 128 i0 (.agg #[.int .u8 0, .string ⟨#[]⟩]) 2 24 Try.underlying124 hi0 hz0 hz1 hz2 rfl (by decide) _ _ _ rfl (HOWN6.out.alloc _) ⟨V6.heap.size, 0, none⟩ 1 1 [.int .u8 (k.toNat : Int), .string t] rfl rfl ?c1 ?c2 ?c3 ?c4 ?c5 ?_)
    case c1 =>
      intro j u hj
      rw [addr_add, Nat.zero_add]
      exact cell_row V6 _ _ j u (by simpa using hj)
    case c2 => simp [Value.oneCell']
    case c3 => unfold maxLen; omega
    case c4 => omega
    case c5 => have := HB6.out.size; simp; omega
    intro v' w9 hv9 hg9 _
    have hb9 := below_pushed HB6.out HOWN6.out _ hg9
    obtain ⟨gg, cap, rfl⟩ : ∃ gg cap, v' = .slice (some ⟨gg, 0, none⟩) (L.rs.length + 1) cap := by
      rcases hv9.2 with ⟨-, h0⟩ | ⟨g, cap, cur, hv, _⟩
      · omega
      · exact ⟨g, cap, hv⟩
    have z2 := (World.cell?_of_block (hb9.block l hlt2)).trans (cells_at HC2.out 2 _ rfl)
    have zf := (World.frozen?_of_block (hb9.block l hlt2)).trans (cells_free HC2.out 2)
    have HOWN9 := Lib.hid hv9
    have HB9 := Lib.hid hb9
    clear hv9 hg9 hb9 y2 yf
    go_wp2_with fail
    go_ret
    have hp := HPUT.out
    rw [if_neg (by simp)] at hp
    rw [hp]
    exact ⟨rfl, rput_turned HB1.out HL1.out HNE.out HO2.out HD2.out HF'.out (rputrec_end (r := ⟨k, t⟩) HL2.out HC2.out (Below.refl _ _) HB9.out HOWN9.out (by omega))⟩
  · have hz : (e == 0) = false := by simpa using he
    have HE := Lib.hid he
    have HT := Lib.hid ht
    clear he ht
    go_wp2_with fail
    go_ret
    have hp := HPUT.out
    rw [if_pos HE.out] at hp
    rw [hp]
    exact ⟨rfl, RTurned2.after HB1.out (RTurned2.disk HL1.out HNE.out HT.out)⟩

/-- What the reference's Open says. -/
def ROpenL (w : World) (d : Nat) (D : Dk.St) (F : Nat → Prop) (file : Int) (e : Ending) (w' : World) : Prop :=
  ((Lg.openL D file).1 = 0 ∧ ∃ l, e = .returned (.tuple #[ptr l 0, .int .i64 0]) ∧ w.heap.size ≤ l ∧ RTurned2 w w' l d file (Lg.openL D file).2.1 (Lg.openL D file).2.2 F (fun _ => False)) ∨
  ((Lg.openL D file).1 ≠ 0 ∧ e = .returned (.tuple #[.pointer none, .int .i64 (Lg.openL D file).1]) ∧ RTurned w w' d (Lg.openL D file).2.1 F)

/-- Behind what is cut off: the log's own block. -/
theorem ropen_end {w w1 Y : World} {d : Nat} {file : Int} {rs : List Lg.Rec} {F F' : Nat → Prop} {D' : Dk.St} {la : Option Addr} {lc : Nat} (hb : Below w.heap.size w w1) (hd : ∀ k, F k → k < w.heap.size) (hown : w1.ownsRow w.heap.size 128 2 (.slice la rs.length lc) rs.length (rfCells rs)) (hon : Only F w1 Y) (hD : RDAt Y d D' F') (hF : ∀ k, F' k → F k ∨ w1.heap.size ≤ k) (hsz : rs.length ≤ 1000000000) :
    RTurned2 w (Y.alloc (.cells #[ptr d 0, .int .i64 file, .slice la rs.length lc, .int .i64 (rs.length : Int)] 126)) Y.heap.size d file D' ⟨rs, rs.length⟩ F (fun _ => False) := by
  have hs := hb.size
  have hs1 := hon.size
  have hba := bel_alloc Y (.cells #[ptr d 0, .int .i64 file, .slice la rs.length lc, .int .i64 (rs.length : Int)] 126)
  have hgo : ∀ g, (Value.slice la rs.length lc).ownBlock = some g → w.heap.size ≤ g ∧ g < w1.heap.size := fun g hg => by
    rcases hown.2 with ⟨h, -⟩ | ⟨g', cap', cur, hv, h2, h3, _⟩
    · rw [h] at hg; cases hg
    · rw [hv] at hg
      simp only [Value.ownBlock, Option.some.injEq] at hg
      subst hg
      exact ⟨h2, (Array.getElem?_eq_some_iff.1 h3).1⟩
  have hnF : ∀ g, w.heap.size ≤ g → ¬ F g := fun g hg h => by have := hd g h; omega
  refine ⟨F', fun k => k = Y.heap.size ∨ (Value.slice la rs.length lc).ownBlock = some k, ?_, hD.below hba, ⟨.inl rfl, fun k hk => ?_, hsz, Nat.le_refl _, _, heap_alloc_new Y _, ?_, fun g hg => .inr hg⟩, fun k hk hg => ?_, fun k hk => ?_, fun k hk => ?_⟩
  · exact ((Only.below hb).trans (hon.mono (fun _ h => .inl h))).trans (Only.below hba)
  · rcases hk with hk | hk
    · rw [hk]; simp
    · have := hgo k hk
      simp
      omega
  · obtain ⟨o1, o2⟩ := own_kept hown (w' := Y.alloc (.cells #[ptr d 0, .int .i64 file, .slice la rs.length lc, .int .i64 (rs.length : Int)] 126)) (fun g hg => by
      obtain ⟨h1, h2⟩ := hgo g hg
      exact (hba.block g (by omega)).trans (hon.block g h2 (hnF g h1)))
    refine ⟨o1, ?_⟩
    rcases o2 with o2 | ⟨g', cap', cur, hv, h2, h3⟩
    · exact .inl o2
    · exact .inr ⟨g', cap', cur, hv, Nat.zero_le _, h3⟩
  · rcases hg with hg | hg
    · have := hD.lt k hk; omega
    · obtain ⟨h1, h2⟩ := hgo k hg
      rcases hF k hk with h | h
      · exact hnF k h1 h
      · omega
  · rcases hF k hk with h | h
    · exact .inl h
    · exact .inr (by omega)
  · rcases hk with hk | hk
    · exact .inr (by omega)
    · exact .inr (hgo k hk).1

set_option maxHeartbeats 4000000 in
set_option maxRecDepth 100000 in
theorem rlogopen_all (w : World) (d : Nat) (D : Dk.St) (F : Nat → Prop) (hd : RDAt w d D F) (file : Int) (hsz : (Dk.read D file).1.size ≤ 5000000) (hm : D.loose.length ≤ 1000000000) :
    Calls Try.prog 63 #[ptr d 0, .int .i64 file] w (ROpenL w d D F file) := by
  have hrd := rread_any w d D F hd file
  by_cases hr : (Dk.read D file).2 = 0
  rotate_left
  · have ho : Lg.openL D file = ((Dk.read D file).2, D, ⟨[], 0⟩) := if_pos hr
    unfold ROpenL
    rw [ho]
    simp only
    obtain ⟨x, hx⟩ : ∃ x, (Dk.read D file).2 = x := ⟨_, rfl⟩
    obtain ⟨s, hs⟩ : ∃ s, (Dk.read D file).1 = s := ⟨_, rfl⟩
    rw [hx] at hr
    rw [hx, hs] at hrd
    rw [hx]
    have hz : (x != 0) = true := by simpa using hr
    have HRD := Lib.hid hrd
    have HD := Lib.hid hd
    have HR := Lib.hid hr
    clear hr hx hs hrd hd ho hsz hm
    unfold ptr at HRD ⊢
    go_enter Try.func63, Try.ntmps63
    go_wp2_with fail
    refine HRD.out.mono ?_
    rintro e w1 ⟨rfl, rfl⟩
    go_wp2_with fail
    go_ret2
    exact .inr ⟨HR.out, rfl, RTurned.self HD.out⟩
  have hopn : Lg.openL D file = (if (Lg.bytesOf (Lg.parse (Dk.read D file).1)).length < (Dk.read D file).1.size then
    if (Dk.cut D file (Lg.bytesOf (Lg.parse (Dk.read D file).1)).length).1 ≠ 0 then ((Dk.cut D file (Lg.bytesOf (Lg.parse (Dk.read D file).1)).length).1, (Dk.cut D file (Lg.bytesOf (Lg.parse (Dk.read D file).1)).length).2, ⟨[], 0⟩) else
    if (Dk.sync (Dk.cut D file (Lg.bytesOf (Lg.parse (Dk.read D file).1)).length).2).1 ≠ 0 then ((Dk.sync (Dk.cut D file (Lg.bytesOf (Lg.parse (Dk.read D file).1)).length).2).1, (Dk.sync (Dk.cut D file (Lg.bytesOf (Lg.parse (Dk.read D file).1)).length).2).2, ⟨[], 0⟩) else
    (0, (Dk.sync (Dk.cut D file (Lg.bytesOf (Lg.parse (Dk.read D file).1)).length).2).2, ⟨Lg.parse (Dk.read D file).1, (Lg.parse (Dk.read D file).1).length⟩)
  else (0, D, ⟨Lg.parse (Dk.read D file).1, (Lg.parse (Dk.read D file).1).length⟩)) := if_neg (by simpa using hr)
  unfold ROpenL
  obtain ⟨Z, hZ⟩ : ∃ Z, Lg.openL D file = Z := ⟨_, rfl⟩
  rw [hZ] at hopn ⊢
  clear hZ
  unfold Lg.parse at hopn
  obtain ⟨s, hs⟩ : ∃ s, (Dk.read D file).1 = s := ⟨_, rfl⟩
  rw [hr] at hrd
  rw [hs] at hrd hsz hopn
  obtain ⟨hitems, htot, hle⟩ := allF_is s.size s.data.toList
  rw [len_data] at hle
  obtain ⟨items, bl0, hit⟩ : ∃ items tot, Cl.allF s.size s.data.toList = (items, tot) := ⟨_, _, rfl⟩
  rw [hit] at hitems htot hle hopn
  simp only at hitems htot hle hopn
  have hb0 := Lg.recs_bytes items
  rw [htot] at hb0
  have hrl := rs_le (Lg.recsOf items)
  rw [hb0] at hopn hrl
  have hrf := rf_of_fr items hitems
  have hil : items.length = (Lg.recsOf items).length := by unfold Lg.recsOf; rw [List.length_map]
  have hall := fun W => refall_own s items bl0 W hsz hit
  rw [hil, ← hrf] at hall
  obtain ⟨rs0, hrs0⟩ : ∃ rs, Lg.recsOf items = rs := ⟨_, rfl⟩
  rw [hrs0] at hopn hrl hall
  have HDD := Lib.hid hopn
  have HALL := Lib.hid hall
  have HRL := Lib.hid (show rs0.length ≤ 1000000000 by omega)
  have HD := Lib.hid hd
  have HRD := Lib.hid hrd
  have HM := Lib.hid hm
  have hs5 : s.size ≤ 5000000 := hsz
  have hb5 : bl0 ≤ s.size := hle
  clear hd hrd hitems hsz hit hm htot hle hr hs hopn hall hrl hrf hil hb0 hrs0
  unfold ptr
  go_enter Try.func63, Try.ntmps63
  go_wp2_with fail
  refine HRD.out.mono ?_
  rintro e w1 ⟨rfl, rfl⟩
  go_wp2_with fail
  refine (HALL.out w).mono ?_
  rintro e w1 ⟨v, rfl, hown, hb1⟩
  have HD1 := Lib.hid (HD.out.below hb1)
  have hrd := Reads.own hown
  obtain ⟨la, lc, rfl⟩ := hrd.shape
  have hlen := hrd.lenLe
  unfold maxLen at hlen
  have HB1 := Lib.hid hb1
  have HOWN := Lib.hid hown
  clear hb1 hown hrd
  by_cases hlt : bl0 < s.size
  · have hd1 : decide ((bl0 : Int) < (s.size : Int)) = true := by simp; omega
    have hd2 : (bl0 : Int) < (s.size : Int) := by omega
    have hdd := HDD.out
    rw [if_pos hlt] at hdd
    obtain ⟨ec, Dc, hcu⟩ : ∃ ec Dc, Dk.cut D file (bl0 : Int) = (ec, Dc) := ⟨_, _, rfl⟩
    have hca := rcut_any w1 d D F HD1.out file (bl0 : Int) HM.out
    rw [hcu] at hca hdd
    simp only at hca hdd
    obtain ⟨es, Ds, hsy⟩ : ∃ es Ds, Dk.sync Dc = (es, Ds) := ⟨_, _, rfl⟩
    rw [hsy] at hdd
    simp only at hdd
    have HSY := Lib.hid hsy
    have HCA := Lib.hid hca
    have HDDU := Lib.hid hdd
    clear hcu hca hsy hdd hlt
    go_wp2_with fail
    refine HCA.out.mono ?_
    rintro e w2 ⟨rfl, ht2⟩
    by_cases hec : ec = 0
    rotate_left
    · have hz : (ec != 0) = true := by simpa using hec
      have hz2 : (ec == 0) = false := by simpa using hec
      have HEC := Lib.hid hec
      have HT2 := Lib.hid ht2
      clear hec ht2
      go_wp2_with fail
      go_ret2
      have hdd := HDDU.out
      rw [if_pos (by simpa using HEC.out)] at hdd
      rw [hdd]
      exact .inr ⟨HEC.out, rfl, RTurned.after HB1.out HT2.out⟩
    subst hec
    obtain ⟨F1, ho2, hD2, hF1⟩ := ht2
    have hsa := rsync_any w2 d _ F1 hD2
    rw [HSY.out] at hsa
    have HSA := Lib.hid hsa
    have HO2 := Lib.hid ho2
    have HF1 := Lib.hid hF1
    clear hsa ho2 hD2 hF1
    go_wp2_with fail
    refine HSA.out.mono ?_
    rintro e w3 ⟨rfl, F2, ho3, hD3, hF2⟩
    have ho23 : Only F w1 w3 := HO2.out.trans' ho3 HF1.out
    have hF3 : ∀ k, F2 k → F k ∨ w1.heap.size ≤ k := fun k hk => by
      rcases hF2 k hk with h | h
      · exact HF1.out k h
      · have := HO2.out.size
        exact .inr (by omega)
    have HO3 := Lib.hid ho23
    have HD3 := Lib.hid hD3
    have HF3 := Lib.hid hF3
    clear ho3 ho23 hD3 hF2 hF3
    by_cases hes : es = 0
    rotate_left
    · have hz : (es != 0) = true := by simpa using hes
      have HES := Lib.hid hes
      clear hes
      go_wp2_with fail
      go_ret2
      have hdd := HDDU.out
      rw [if_neg (by simp), if_pos (by simpa using HES.out)] at hdd
      rw [hdd]
      exact .inr ⟨HES.out, rfl, RTurned.after HB1.out ⟨F2, HO3.out, HD3.out, HF3.out⟩⟩
    subst hes
    go_wp2_with fail
    go_ret2
    have hdd := HDDU.out
    rw [if_neg (by simp), if_neg (by simp)] at hdd
    rw [hdd]
    exact .inl ⟨rfl, _, rfl, Nat.le_trans HB1.out.size HO3.out.size, ropen_end HB1.out HD.out.lt HOWN.out HO3.out HD3.out HF3.out HRL.out⟩
  · have hd1 : decide ((bl0 : Int) < (s.size : Int)) = false := by simp; omega
    have hd2 : ¬ (bl0 : Int) < (s.size : Int) := by omega
    have hdd := HDD.out
    rw [if_neg hlt] at hdd
    have HDDU := Lib.hid hdd
    clear hdd hlt
    go_wp2_with fail
    go_ret2
    rw [HDDU.out]
    exact .inl ⟨rfl, _, rfl, HB1.out.size, ropen_end HB1.out HD.out.lt HOWN.out (Only.refl _ _) HD1.out (fun _ h => .inl h) HRL.out⟩

end Go.Proofs.Ytllecjhfbojgcaa
