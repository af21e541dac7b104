/-
  Rows of the laws' records; texts walked.
-/
import Derived.Test.YtdkhidajmhmjpaaLogWorks
import Derived.OwnWalk
namespace Go.Proofs.Ytdkhidajmhmjpaa
open Go.RowKit
set_option maxRecDepth 20000

def recC (r : Lg.Rec) : List Value := [.int .u8 (r.kind.toNat : Int), .string r.text, .bool false, .int .i64 0]
def recCells (rs : List Lg.Rec) : List Value := rs.flatMap recC
theorem recCells_snoc (rs : List Lg.Rec) (r : Lg.Rec) : recCells (rs ++ [r]) = recCells rs ++ recC r := by simp [recCells]
theorem recCells_len (rs : List Lg.Rec) : (recCells rs).length = rs.length * 4 := by
  induction rs with
  | nil => rfl
  | cons r rs ih =>
    have : recCells (r :: rs) = recC r ++ recCells rs := rfl
    rw [this, List.length_append, ih, List.length_cons]
    simp [recC]
    omega
theorem recCells_take (rs : List Lg.Rec) : ∀ k, (recCells rs).take (k * 4) = recCells (rs.take k) := by
  induction rs with
  | nil => intro k; simp [recCells]
  | cons r rs ih =>
    intro k
    cases k with
    | zero => simp [recCells]
    | succ k =>
      have : recCells (r :: rs) = recC r ++ recCells rs := rfl
      have h2 : recCells ((r :: rs).take (k + 1)) = recC r ++ recCells (rs.take k) := rfl
      rw [this, h2, ← ih k, show (k + 1) * 4 = 4 + k * 4 by omega, List.take_append, List.take_of_length_le (by simp [recC])]
      simp [recC]
theorem recCells_at (rs : List Lg.Rec) : ∀ (k : Nat) (r : Lg.Rec), rs[k]? = some r → ∀ j, j < 4 → (recCells rs)[k * 4 + j]? = (recC r)[j]? := by
  induction rs with
  | nil => intro k r h; simp at h
  | cons z rs ih =>
    intro k r h j hj
    have : recCells (z :: rs) = recC z ++ recCells rs := rfl
    rw [this]
    have hz : (recC z).length = 4 := rfl
    cases k with
    | zero =>
      simp only [List.getElem?_cons_zero, Option.some.injEq] at h
      subst h
      rw [List.getElem?_append_left (by rw [hz]; omega)]
      congr 1
      omega
    | succ k =>
      rw [List.getElem?_cons_succ] at h
      rw [List.getElem?_append_right (by rw [hz]; omega), ← ih k r h j hj]
      congr 1
      rw [hz]
      omega
theorem reads_rec {w : World} {a : Option Addr} {n c : Nat} {rs : List Lg.Rec} (h : Reads w (.slice a n c) rs.length (recCells rs)) (k : Nat) (r : Lg.Rec) (hr : rs[k]? = some r) :
    ∃ b o, a = some ⟨b, o, none⟩ ∧ b < w.heap.size ∧ w.cell? ⟨b, o + k * 4, none⟩ = some (.int .u8 (r.kind.toNat : Int)) ∧ w.cell? ⟨b, o + k * 4 + 1, none⟩ = some (.string r.text) ∧ w.cell? ⟨b, o + k * 4 + 2, none⟩ = some (.bool false) ∧ w.cell? ⟨b, o + k * 4 + 3, none⟩ = some (.int .i64 0) := by
  have hlt := (List.getElem?_eq_some_iff.1 hr).1
  obtain ⟨b, o, kk, hv, h1, _, hb, hc⟩ := h.some (by omega)
  simp only [Value.slice.injEq] at hv
  obtain ⟨h1', _, h3⟩ := hv
  have g := recCells_at rs k r hr
  exact ⟨b, o, h1', hb, hc _ _ (g 0 (by omega)), hc _ _ (g 1 (by omega)), hc _ _ (g 2 (by omega)), hc _ _ (g 3 (by omega))⟩

theorem infoLawRec : (Try.prog.info? 33).map (fun i => (i.zero, i.size, i.bytes)) = some (some (.agg #[.int .u8 0, .string ⟨#[]⟩, .bool false, .int .i64 0]), 4, 40) := by kernel_rfl

/-- An append to a row of its own, or one that is cut off, in a list that draws no order. -/
theorem wpList_append_row {P : Program} {w : World} {ops : Array Oper} {rest : List Oper} {o : Oper} {a : Act} {Q : Exit → Act → World → Prop} (hgd : o.guard = none) (s x : Operand) (t : TypeId)
    (ho : o.op = .call { callee := .builtin .append, args := #[s, x], argTypes := #[t, t] })
    (e : TypeId) (i : TypeInfo) (z : Value) (size bytes : Nat) (ht : P.underlying t = some (.slice e)) (hi : P.info? e = some i) (hz : i.zero = some z)
    (hsize : i.size = size) (hby : i.bytes = bytes) (hzs : z.cells.size = size) (hsz : 0 < size)
    (v : Value) (n : Nat) (xs : List Value) (hs : a.eval s = v) (hown : RowAt w e size v n xs)
    (ad : Addr) (m c : Nat) (news : List Value) (hx : a.eval x = .slice (some ad) m c) (hl : news.length = m * size) (hnews : ∀ j u, news[j]? = some u → w.cell? (ad.add j) = some u) (h1 : ∀ u ∈ news, u.oneCell' = true)
    (hm : 0 < m) (h63 : n + m ≤ maxLen) (hbytes : (n + m) * bytes ≤ 140737488355328)
    (h : ∀ g cap w', w'.ownsRow 0 e size (.slice (some ⟨g, 0, none⟩) (n + m) cap) (n + m) (xs ++ news) → w.grownBy w' v.ownBlock → (v.ownBlock = some g ∨ w.heap.size ≤ g) → g < w'.heap.size → wpList P ops Q rest (a.put o.dst (.slice (some ⟨g, 0, none⟩) (n + m) cap)) w') : wpList P ops Q (o :: rest) a w := by
  refine wpList_plain hgd fun K hK => ?_
  have hw : Region.wanted o (yielded ops a.tmps) = true := by simp [Region.wanted, hgd]
  have := step_append_row (P := P) (w := w) (ops := ops) (o := o) (a := a) (K := K) (Q := Q) (E := True) hgd s x t ho e i z size bytes ht hi hz hsize hby hzs hsz v n xs hs hown ad m c news hx hl hnews h1 hm h63 hbytes (fun g cap w' h2 h3 h4 h5 => hK _ _ (h g cap w' h2 h3 h4 h5))
  rwa [if_pos hw] at this

set_option maxHeartbeats 4000000 in
theorem texts_any (w : World) (l d : Nat) (file : Int) (L : Lg.St) (G : Nat → Prop) (h : LogAt w l d file L G) (hn : L.rs.length ≤ 1000000) :
    Calls Try.prog 17 #[ptr l 0] w fun e w' => ∃ v, e = .returned v ∧ w'.ownsRow w.heap.size 33 4 v L.rs.length (recCells L.rs) ∧ Below w.heap.size w w' := by
  obtain ⟨i0, hi0, hz0, hz1, hz2⟩ := info_parts infoLawRec
  have H := Lib.hid h
  obtain ⟨n, hnn⟩ : ∃ n, L.rs.length = n := ⟨_, rfl⟩
  rw [hnn] at hn ⊢
  have HN := Lib.hid hnn
  have hlen := loglen_any w l d file L G h
  rw [hnn] at hlen
  clear h hnn
  unfold ptr at hlen ⊢
  go_enter Try.func17, Try.ntmps17
  go_wp2_with fail
  refine hlen.mono ?_
  clear hlen
  rintro e w' ⟨rfl, rfl⟩
  go_wp2_with fail
  go_loopw [3, 10] (fun out i wr => ∃ k : Nat, k ≤ n ∧ i = .int .i64 (k : Int) ∧ wr.ownsRow w.heap.size 33 4 out k (recCells (L.rs.take k)) ∧ Below w.heap.size w wr) (fun _ i _ => n - (intOf i).toNat)
  case atStart => exact ⟨0, Nat.zero_le _, rfl, World.ownsRow_nil _ _ _ _, Below.refl _ _⟩
  case round =>
    obtain ⟨k, hk, rfl, hown, hbw⟩ := hrel
    by_cases hlt : k < n
    · obtain ⟨r, hr⟩ : ∃ r, L.rs[k]? = some r := ⟨L.rs[k]'(by rw [HN.out]; omega), by simp⟩
      have hkk : (k : Int) < (n : Int) := by omega
      have hat := logat_any wr l d file L G (H.out.below hbw) (k : Int)
      rw [show Lg.at' L (k : Int) = ((r.kind.toNat : Int), r.text, (0 : Int)) by unfold Lg.at'; rw [if_neg (by omega), Int.toNat_natCast, hr]] at hat
      have ht := List.take_add_one (l := L.rs) (i := k)
      rw [hr] at ht
      have HT := Lib.hid (show L.rs.take (k + 1) = L.rs.take k ++ [r] from ht)
      unfold ptr at hat
      clear ht hr
      go_wp2_with fail
      refine hat.mono ?_
      clear hat
      rintro e w1 ⟨rfl, hb1⟩
      have hown1 := own_below hown hb1
      have hbw1 := bel_trans hbw hb1
      have hsz1 := hbw1.size
      clear hown hbw hb1
      go_wp2_with ((at_builtin; refine wpList_append_own _ rfl _ _ 22 rfl w.heap.size 33 i0 (.agg #[.int .u8 0, .string ⟨#[]⟩, .bool false, .int .i64 0]) 4 40 Try.underlying22 hi0 hz0 hz1 hz2 rfl (by decide) _ _ _ rfl (hown1.alloc _) ⟨w1.heap.size, 0, none⟩ 1 1 [.int .u8 (r.kind.toNat : Int), .string r.text, .bool false, .int .i64 0] rfl rfl ?c1 ?c2 ?c3 ?c4 ?c5 ?_))
      case c1 =>
        intro j u hj
        rw [addr_add, Nat.zero_add]
        exact cell_row w1 _ _ j u (by simpa using hj)
      case c2 => simp [Value.oneCell']
      case c3 => unfold maxLen; omega
      case c4 => omega
      case c5 => simp; omega
      intro v' w2 hv2 hg2 _
      have hb2 := below_pushed hbw1 hown1 _ hg2
      clear hg2 hown1 hbw1
      go_wp2_with fail
      go_roundw
      case rel =>
        refine ⟨k + 1, by omega, by go_num, ?_, hb2⟩
        rw [HT.out, recCells_snoc]
        exact hv2
      case measure => simp [intOf]; omega
    · have hke : k = n := by omega
      subst hke
      have hkk : ¬ (k : Int) < (k : Int) := by omega
      rw [← HN.out, List.take_length, HN.out] at hown
      clear hlt
      go_wp2_with fail
      go_ret
      exact ⟨_, rfl, hown, hbw⟩

end Go.Proofs.Ytdkhidajmhmjpaa
