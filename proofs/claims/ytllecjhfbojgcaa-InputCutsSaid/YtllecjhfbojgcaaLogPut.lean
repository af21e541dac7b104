/-
  Put walked.
-/
import Derived.Test.YtllecjhfbojgcaaLogSync
import Derived.Test.YtllecjhfbojgcaaFrameLaws
import Derived.Deep.RegionLaw
import Derived.BigRegion
namespace Go.Proofs.Ytllecjhfbojgcaa
open Go.RowKit
set_option maxRecDepth 20000

theorem step_append_row {P : Program} {w : World} {ops : Array Oper} {o : Oper} {a : Act} {K : Act → World → Prop} {Q : Exit → Act → World → Prop} {E : Prop} (hgd : o.guard = none) (s x : Operand) (t : TypeId)
    (ho : o.op = .call { callee := .builtin .append, args := #[s, x], argTypes := #[t, t] })
    (e : TypeId) (i : TypeInfo) (z : Value) (size bytes : Nat) (ht : P.underlying t = some (.slice e)) (hi : P.info? e = some i) (hz : i.zero = some z)
    (hsize : i.size = size) (hby : i.bytes = bytes) (hzs : z.cells.size = size) (hsz : 0 < size)
    (v : Value) (n : Nat) (xs : List Value) (hs : a.eval s = v) (hown : RowAt w e size v n xs)
    (ad : Addr) (m c : Nat) (news : List Value) (hx : a.eval x = .slice (some ad) m c) (hl : news.length = m * size) (hnews : ∀ j u, news[j]? = some u → w.cell? (ad.add j) = some u) (h1 : ∀ u ∈ news, u.oneCell' = true)
    (hm : 0 < m) (h63 : n + m ≤ maxLen) (hbytes : (n + m) * bytes ≤ 140737488355328)
    (h : ∀ g cap w', w'.ownsRow 0 e size (.slice (some ⟨g, 0, none⟩) (n + m) cap) (n + m) (xs ++ news) → w.grownBy w' v.ownBlock → (v.ownBlock = some g ∨ w.heap.size ≤ g) → g < w'.heap.size → K (a.put o.dst (.slice (some ⟨g, 0, none⟩) (n + m) cap)) w') :
    if Region.wanted o (yielded ops a.tmps) = true then Oper.wp P o a w K Q else E := by
  rcases hown with hown | ⟨hlen, g0, cur, rfl, hg0, hnm, hns, htake⟩
  · refine step_append_lies w hgd s x t ho 0 e i z size bytes ht hi hz hsize hby hzs hsz v n xs hs hown ad m c news hx hl hnews h1 hm h63 hbytes (Nat.zero_le _) w.heap.size rfl ?_
    intro g cap w' h2 h3 h4 h5
    refine h g cap w' h2 h3 ?_ h5
    rcases h4 with h4 | h4
    · exact .inl h4
    · exact .inr (Nat.le_of_eq h4.symm)
  · refine step_append_grows hgd s x t ho e i z size bytes ht hi hz hsize hby hzs hsz (some ⟨g0, 0, none⟩) n n xs hs (fun h => by cases h) hlen ?_ ad m c news hx hl hnews h1 (by omega) h63 hbytes ?_
    · intro b hb j u hj
      cases hb
      rw [addr_add, Nat.zero_add]
      refine cells_at hg0 j u ?_
      have hlt := (List.getElem?_eq_some_iff.1 hj).1
      rw [hlen] at hlt
      rw [← htake, List.getElem?_take_of_lt hlt] at hj
      simpa using hj
    · intro v' w' ho' hg'
      obtain ⟨hxl, hor⟩ := ho'
      rcases hor with ⟨-, hz0⟩ | ⟨g, cap, cur', rfl, hge, hcc, h7, h8, h9, h10⟩
      · omega
      · exact h g cap w' ⟨hxl, .inr ⟨g, cap, cur', rfl, Nat.zero_le _, hcc, h7, h8, h9, h10⟩⟩ ⟨hg'.os, hg'.tape, hg'.output, hg'.size, fun k hk _ => hg'.block k hk (by simp)⟩ (.inr hge) (Array.getElem?_eq_some_iff.1 hcc).1

theorem infoRecord : (Try.prog.info? 162).map (fun i => (i.zero, i.size, i.bytes)) = some (some (.agg #[.int .u8 0, .string ⟨#[]⟩, .int .i64 0]), 3, 32) := by kernel_rfl

/-- Behind the append of a record, and the store of the row. -/
theorem putrec_end {w W w3 : World} {l d g cap : Nat} {file : Int} {L : Lg.St} {G : Nat → Prop} {lv : Value} {r : Lg.Rec} {xs : List Value}
    (h : LogAt w l d file L G) (hc : w.heap[l]? = some (.cells #[ptr d 0, .int .i64 file, lv, .int .i64 (L.sure : Int)] 155)) (hr : RowAt w 162 3 lv L.rs.length (Lg.cells L.rs)) (hg : ∀ g, lv.ownBlock = some g → G g)
    (hW : Below w.heap.size w W) (hgr : W.grownBy w3 lv.ownBlock) (hown : w3.ownsRow 0 162 3 (.slice (some ⟨g, 0, none⟩) (L.rs.length + 1) cap) (L.rs.length + 1) (Lg.cells L.rs ++ xs)) (hxs : Lg.cells L.rs ++ xs = Lg.cells (L.rs ++ [r])) (hsz : (Lg.bytesOf (L.rs ++ [r])).length ≤ 1000000000)
    (hat : lv.ownBlock = some g ∨ W.heap.size ≤ g) (hglt : g < w3.heap.size) :
    ∃ G', Only (fun k => G k) w (w3.setCell ⟨l, 2, none⟩ (.slice (some ⟨g, 0, none⟩) (L.rs.length + 1) cap)) ∧ LogAt (w3.setCell ⟨l, 2, none⟩ (.slice (some ⟨g, 0, none⟩) (L.rs.length + 1) cap)) l d file { L with rs := L.rs ++ [r] } G' ∧ (∀ k, G' k → G k ∨ w.heap.size ≤ k) := by
  have hlne : lv.ownBlock ≠ some l := fun e => by
    obtain ⟨cur, hcur⟩ := hr.type l e
    exact far hcur hc (by decide) rfl
  have hlt := h.lt l h.mem
  have hWs := hW.size
  have hgs := hgr.size
  have hkeep : ∀ k, k < w.heap.size → some k ≠ lv.ownBlock → w3.heap[k]? = w.heap[k]? := fun k hk hne => (hgr.block k (by omega) hne).trans (hW.block k hk)
  have hc3 : w3.heap[l]? = some (.cells #[ptr d 0, .int .i64 file, lv, .int .i64 (L.sure : Int)] 155) := (hkeep l hlt (Ne.symm hlne)).trans hc
  have hgl : g ≠ l := by
    rcases hat with h | h
    · intro e; rw [e] at h; exact hlne h
    · omega
  have hset : ∀ k, k ≠ l → (w3.setCell ⟨l, 2, none⟩ (.slice (some ⟨g, 0, none⟩) (L.rs.length + 1) cap)).heap[k]? = w3.heap[k]? := fun k hk => Below.heap_setCell _ _ _ _ (by exact hk)
  refine ⟨fun k => G k ∨ k = g, ?_, ⟨.inl h.mem, fun k hk => ?_, hsz, ?_, .slice (some ⟨g, 0, none⟩) (L.rs.length + 1) cap, ?_, ?_, fun b hb => ?_⟩, fun k hk => ?_⟩
  · refine ⟨hgr.os.trans hW.os, hgr.tape.trans hW.tape, hgr.output.trans hW.output, by simp; omega, fun k hk hs => ?_⟩
    rw [hset k (fun e => hs (e ▸ h.mem)), hkeep k hk (fun e => hs (hg k e.symm))]
  · simp only [World.size_setCell]
    rcases hk with hk | hk
    · have := h.lt k hk; omega
    · omega
  · have := h.sure
    show L.sure ≤ (L.rs ++ [r]).length
    simp
    omega
  · rw [cells_set hc3]
    rfl
  · refine .inl ?_
    show World.ownsRow _ 0 _ 3 _ (L.rs ++ [r]).length _
    rw [List.length_append]
    rw [hxs] at hown
    refine own_kept hown (fun b hb => ?_)
    simp only [Value.ownBlock, Option.some.injEq] at hb
    subst hb
    exact hset _ hgl
  · simp only [Value.ownBlock, Option.some.injEq] at hb
    exact .inr hb.symm
  · rcases hk with hk | hk
    · exact .inl hk
    · rcases hat with h1 | h1
      · exact .inl (hk ▸ hg g h1)
      · right; omega

end Go.Proofs.Ytllecjhfbojgcaa
