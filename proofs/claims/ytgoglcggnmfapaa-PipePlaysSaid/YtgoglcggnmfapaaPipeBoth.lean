/-
  A pipe and the reference's pipe, side by side: each call.
-/
import Derived.Test.YtgoglcggnmfapaaPipeRefPut1
import Derived.Test.YtgoglcggnmfapaaPipeTake
namespace Go.Proofs.Ytgoglcggnmfapaa
open Go.RowKit Go.Conc

structure Both (w0 w : World) (pb cb rb n N : Nat) (ms rs : List MsgV) (K : Nat → Prop) : Prop where
  bel : Below w0.heap.size w0 w
  p0 : w0.heap.size ≤ pb
  c0 : w0.heap.size ≤ cb
  r0 : w0.heap.size ≤ rb
  pN : pb < N
  cN : cb < N
  pr : pb ≠ rb
  cr : cb ≠ rb
  NW : N ≤ w.heap.size
  pipe : ∃ hd q, PipeAt w pb cb n hd q ∧ msgsOf hd q = ms ∧ ∀ hb m, hd = some (hb, m) → ¬ K hb
  ref : ∃ Lv, RefAt w rb n N Lv rs ∧ (0 < rs.length → ∀ g, Lv.ownBlock = some g → ¬ K g)
  kk : ∀ k, K k → k < w.heap.size ∧ k ≠ pb ∧ k ≠ cb ∧ k ≠ rb
  okP : ∀ m ∈ ms, ∃ l : List (Int × Int × Int), Reads w0 m.lv l.length (recCells l)
  okR : ∀ m ∈ rs, ∃ l : List (Int × Int × Int), Reads w0 m.lv l.length (recCells l)

theorem Both.lt {w0 w : World} {pb cb rb n N : Nat} {ms rs : List MsgV} {K : Nat → Prop} (h : Both w0 w pb cb rb n N ms rs K) : pb < w.heap.size ∧ cb < w.heap.size ∧ rb < w.heap.size := by
  obtain ⟨hd, q, hp, -⟩ := h.pipe
  obtain ⟨Lv, hr, -⟩ := h.ref
  obtain ⟨l1, l2, -⟩ := hp.lt
  exact ⟨l1, l2, (Array.getElem?_eq_some_iff.1 hr.box).1⟩
theorem RefAt.own_lt {w : World} {rb n N : Nat} {Lv : Value} {rs : List MsgV} (h : RefAt w rb n N Lv rs) (hk : 0 < rs.length) : ∀ g, Lv.ownBlock = some g → g < w.heap.size := fun g hg => by
  obtain ⟨b, o, c, hv, -, -, hbl, -⟩ := h.row.some hk
  rw [hv] at hg
  simp only [Value.ownBlock, Option.some.injEq] at hg
  omega
theorem RefAt.turn {w w' : World} {rb n N : Nat} {Lv : Value} {rs : List MsgV} (h : RefAt w rb n N Lv rs) (h1 : w'.heap[rb]? = w.heap[rb]?) (hs : w.heap.size ≤ w'.heap.size) (h2 : 0 < rs.length → ∀ g, Lv.ownBlock = some g → w'.heap[g]? = w.heap[g]?) : RefAt w' rb n N Lv rs := by
  refine ⟨h1.trans h.box, ?_, h.far, h.rN⟩
  by_cases hk : 0 < rs.length
  · exact reads_kept h.row (h2 hk) hs
  · have e0 : rs = [] := by cases rs with | nil => rfl | cons _ _ => simp at hk
    subst e0
    obtain ⟨la, lc, rfl⟩ := h.row.shape
    exact .inl ⟨_, _, rfl, rfl, rfl⟩
theorem Both.below {w0 w w' : World} {pb cb rb n N : Nat} {ms rs : List MsgV} {K : Nat → Prop} (h : Both w0 w pb cb rb n N ms rs K) (hb : Below w.heap.size w w') : Both w0 w' pb cb rb n N ms rs K := by
  obtain ⟨hd, q, hp, hm, hh⟩ := h.pipe
  obtain ⟨Lv, hr, hg⟩ := h.ref
  exact ⟨bel_trans h.bel hb, h.p0, h.c0, h.r0, h.pN, h.cN, h.pr, h.cr, by have := hb.size; have := h.NW; omega, ⟨hd, q, hp.below hb, hm, hh⟩, ⟨Lv, hr.below hb, hg⟩, fun k hk => ⟨by have := (h.kk k hk).1; have := hb.size; omega, (h.kk k hk).2⟩, h.okP, h.okR⟩
theorem Both.less {w0 w : World} {pb cb rb n N : Nat} {ms rs : List MsgV} {K K' : Nat → Prop} (h : Both w0 w pb cb rb n N ms rs K) (hk : ∀ k, K' k → K k) : Both w0 w pb cb rb n N ms rs K' := by
  obtain ⟨hd, q, hp, hm, hh⟩ := h.pipe
  obtain ⟨Lv, hr, hg⟩ := h.ref
  exact ⟨h.bel, h.p0, h.c0, h.r0, h.pN, h.cN, h.pr, h.cr, h.NW, ⟨hd, q, hp, hm, fun hb m e h' => hh hb m e (hk _ h')⟩, ⟨Lv, hr, fun h0 g e h' => hg h0 g e (hk _ h')⟩, fun k h' => h.kk k (hk k h'), h.okP, h.okR⟩
/-- New blocks are none of theirs. -/
theorem Both.grow {w0 w w' : World} {pb cb rb n N : Nat} {ms rs : List MsgV} {K : Nat → Prop} (h : Both w0 w pb cb rb n N ms rs K) (hb : Below w.heap.size w w') : Both w0 w' pb cb rb n N ms rs (fun k => K k ∨ (w.heap.size ≤ k ∧ k < w'.heap.size)) := by
  obtain ⟨l1, l2, l3⟩ := h.lt
  have h2 := h.below hb
  have hs := hb.size
  obtain ⟨hd, q, hp, hm, hh⟩ := h.pipe
  obtain ⟨Lv, hr, hg⟩ := h.ref
  refine ⟨h2.bel, h.p0, h.c0, h.r0, h.pN, h.cN, h.pr, h.cr, h2.NW, ⟨hd, q, hp.below hb, hm, fun hb' m e h' => ?_⟩, ⟨Lv, hr.below hb, fun h0 g e h' => ?_⟩, fun k hk => ?_, h.okP, h.okR⟩
  · have := hp.lt.2.2 hb' m e
    rcases h' with h' | h'
    · exact hh hb' m e h'
    · omega
  · have := hr.own_lt h0 g e
    rcases h' with h' | h'
    · exact hg h0 g e h'
    · omega
  · rcases hk with hk | hk
    · have := h.kk k hk; exact ⟨by omega, this.2⟩
    · exact ⟨hk.2, by omega, by omega, by omega⟩
/-- Blocks that are none of theirs may change. -/
theorem Both.side {w0 w w' : World} {pb cb rb n N : Nat} {ms rs : List MsgV} {K : Nat → Prop} (h : Both w0 w pb cb rb n N ms rs K) (ho : Only K w w') (hK : ∀ k, K k → w0.heap.size ≤ k) : Both w0 w' pb cb rb n N ms rs K := by
  obtain ⟨hd, q, hp, hm, hh⟩ := h.pipe
  obtain ⟨Lv, hr, hg⟩ := h.ref
  obtain ⟨l1, l2, l3⟩ := h.lt
  have hs := ho.size
  refine ⟨h.bel.trans (ho.toBelow h.bel.size hK), h.p0, h.c0, h.r0, h.pN, h.cN, h.pr, h.cr, by have := h.NW; omega, ⟨hd, q, hp.kept (ho.block pb l1 (fun e => (h.kk _ e).2.1 rfl)) (ho.block cb l2 (fun e => (h.kk _ e).2.2.1 rfl)) (fun hb m e => ho.block hb (hp.lt.2.2 hb m e) (hh hb m e)), hm, hh⟩, ⟨Lv, hr.turn (ho.block rb l3 (fun e => (h.kk _ e).2.2.2 rfl)) hs (fun h0 g e => ho.block g (hr.own_lt h0 g e) (hg h0 g e)), hg⟩, fun k hk => ⟨by have := (h.kk k hk).1; omega, (h.kk k hk).2⟩, h.okP, h.okR⟩

/-- Behind a call of the pipe. -/
theorem Both.turnP {w0 w w' : World} {pb cb rb n N : Nat} {ms ms' rs : List MsgV} {K : Nat → Prop} (h : Both w0 w pb cb rb n N ms rs K) (ho : Only (fun k => k = pb ∨ k = cb) w w') (hp : ∃ hd q, PipeAt w' pb cb n hd q ∧ msgsOf hd q = ms' ∧ ∀ hb m, hd = some (hb, m) → ¬ K hb) (ok : ∀ m ∈ ms', ∃ l : List (Int × Int × Int), Reads w0 m.lv l.length (recCells l)) : Both w0 w' pb cb rb n N ms' rs K := by
  obtain ⟨Lv, hr, hg⟩ := h.ref
  have hpr := h.pr
  have hcr := h.cr
  have hs := ho.size
  refine ⟨h.bel.trans (ho.toBelow h.bel.size (fun i hi => by rcases hi with rfl | rfl; exact h.p0; exact h.c0)), h.p0, h.c0, h.r0, h.pN, h.cN, h.pr, h.cr, by have := h.NW; omega, hp, ⟨Lv, hr.turn ?_ hs (fun h0 g e => ho.block g (hr.own_lt h0 g e) (by have := hr.far g e; have := h.pN; have := h.cN; omega)), hg⟩, fun k hk => ⟨by have := (h.kk k hk).1; omega, (h.kk k hk).2⟩, ok, h.okR⟩
  exact ho.block rb h.lt.2.2 (by rintro (e | e); exact hpr e.symm; exact hcr e.symm)
/-- Behind a call of the reference's. -/
theorem Both.turnR {w0 w w' : World} {pb cb rb n N : Nat} {ms rs rs' : List MsgV} {K : Nat → Prop} (h : Both w0 w pb cb rb n N ms rs K) (ho : Only (fun k => k = rb) w w') (hr : ∃ Lv, RefAt w' rb n N Lv rs' ∧ (0 < rs'.length → ∀ g, Lv.ownBlock = some g → ¬ K g)) (ok : ∀ m ∈ rs', ∃ l : List (Int × Int × Int), Reads w0 m.lv l.length (recCells l)) : Both w0 w' pb cb rb n N ms rs' K := by
  obtain ⟨hd, q, hp, hm, hh⟩ := h.pipe
  obtain ⟨Lv, hrr, -⟩ := h.ref
  obtain ⟨l1, l2, l3⟩ := hp.lt
  have hs := ho.size
  refine ⟨h.bel.trans (ho.toBelow h.bel.size (fun i hi => by rw [show i = rb from hi]; exact h.r0)), h.p0, h.c0, h.r0, h.pN, h.cN, h.pr, h.cr, by have := h.NW; omega, ⟨hd, q, hp.kept (ho.block pb l1 h.pr) (ho.block cb l2 h.cr) (fun hb m hh => ho.block hb (l3 hb m hh) (fun e => ?_)), hm, hh⟩, hr, fun k hk => ⟨by have := (h.kk k hk).1; omega, (h.kk k hk).2⟩, h.okP, ok⟩
  have e : hb = rb := e
  have h1 := hp.head hb m hh
  rw [e, hrr.box] at h1
  simp at h1

/-- The first message, and where it is held. -/
theorem head_some2 (w : World) (pb cb cap : Nat) (hd : Option (Nat × MsgV)) (q : List MsgV) (m : MsgV) (rest : List MsgV) (h : PipeAt w pb cb cap hd q) (hL : msgsOf hd q = m :: rest) (hlv : ∃ a n c, m.lv = .slice a n c) :
    Calls Try.prog 13 #[.pointer (some ⟨pb, 0, none⟩)] w fun e w' => e = .returned (.tuple #[m.val, .int .i64 0]) ∧ ∃ hb, Only (fun k => k = pb ∨ k = cb) w w' ∧ PipeAt w' pb cb cap (some (hb, m)) rest ∧ ((∃ x, hd = some (hb, x)) ∨ w.heap.size ≤ hb) := by
  cases hd with
  | none =>
    have e : q = m :: rest := by simpa [msgsOf] using hL
    subst e
    exact (head_recv w pb cb cap m rest h hlv).mono fun e w' ⟨h1, hb, h2, h3, h4⟩ => ⟨h1, hb, h3, h4, .inr h2⟩
  | some x =>
    obtain ⟨hb, m'⟩ := x
    obtain ⟨rfl, rfl⟩ : m' = m ∧ q = rest := by simpa [msgsOf] using hL
    exact (head_held w pb cb cap hb m' q h hlv).mono fun e w' ⟨h1, h2⟩ => ⟨h1, hb, Only.below h2, h.below h2, .inl ⟨_, rfl⟩⟩

def putE (n : Nat) (m : MsgP) (ms : List MsgV) : Int := if mayB m = false then 2 else if n ≤ ms.length then 7 else 0
def putL (n : Nat) (m : MsgP) (lv : Value) (ms : List MsgV) : List MsgV := if mayB m = false then ms else if n ≤ ms.length then ms else ms ++ [⟨m.seq, m.bar, lv⟩]
def headV (ms : List MsgV) : Value := match ms with | [] => zeroMsg | m :: _ => m.val
def headE (ms : List MsgV) : Int := match ms with | [] => 4 | _ :: _ => 0

theorem ok_put {w0 : World} {n : Nat} {m : MsgP} {lv : Value} {ms : List MsgV} (ok : ∀ m ∈ ms, ∃ l : List (Int × Int × Int), Reads w0 m.lv l.length (recCells l)) (hr : Reads w0 lv m.l.length (recCells m.l)) : ∀ x ∈ putL n m lv ms, ∃ l : List (Int × Int × Int), Reads w0 x.lv l.length (recCells l) := by
  intro x hx
  unfold putL at hx
  split at hx
  · exact ok x hx
  · split at hx
    · exact ok x hx
    · rw [List.mem_append, List.mem_singleton] at hx
      rcases hx with hx | rfl
      · exact ok x hx
      · exact ⟨_, hr⟩
theorem ok_sl {w0 : World} {ms : List MsgV} (ok : ∀ m ∈ ms, ∃ l : List (Int × Int × Int), Reads w0 m.lv l.length (recCells l)) : ∀ x ∈ ms, ∃ a k c, x.lv = .slice a k c := fun x hx => by
  obtain ⟨l, hl⟩ := ok x hx
  obtain ⟨a, c, h⟩ := hl.shape
  exact ⟨a, _, c, h⟩

theorem bp_put {w0 w : World} {pb cb rb n N : Nat} {ms rs : List MsgV} {K : Nat → Prop} (h : Both w0 w pb cb rb n N ms rs K) (m : MsgP) (lv : Value) (hr : Reads w0 lv m.l.length (recCells m.l)) :
    Calls Try.prog 11 #[.pointer (some ⟨pb, 0, none⟩), .agg #[.int .i64 m.seq, .int .i64 m.bar, lv]] w fun e w' => e = .returned (.int .i64 (putE n m ms)) ∧ Both w0 w' pb cb rb n N (putL n m lv ms) rs K ∧ Only (fun k => k = pb ∨ k = cb) w w' := by
  obtain ⟨hd, q, hp, hm, hh⟩ := h.pipe
  have hlen := msgsOf_len hd q
  rw [hm] at hlen
  have hrw := hr.below h.bel
  have hok := ok_put (n := n) h.okP hr
  by_cases hmay : mayB m = false
  · refine (put_bad w pb m lv hrw hmay).mono ?_
    rintro e w' ⟨rfl, hb⟩
    unfold putE putL
    rw [if_pos hmay, if_pos hmay]
    exact ⟨rfl, h.below hb, Only.below hb⟩
  · have hmay' : mayB m = true := by simpa using hmay
    by_cases hf : n ≤ ms.length
    · refine (put_full w pb cb n hd q hp m lv hrw hmay' (by have := hp.room; omega)).mono ?_
      rintro e w' ⟨rfl, hb⟩
      unfold putE putL
      rw [if_neg hmay, if_neg hmay, if_pos hf, if_pos hf]
      exact ⟨rfl, h.below hb, Only.below hb⟩
    · refine (put_ok w pb cb n hd q hp m lv hrw hmay' (by omega)).mono ?_
      rintro e w' ⟨rfl, ho, hp'⟩
      have ho' : Only (fun k => k = pb ∨ k = cb) w w' := ho.mono (fun i hi => .inr hi)
      unfold putL at hok ⊢
      unfold putE
      rw [if_neg hmay, if_neg hf] at hok ⊢
      rw [if_neg hmay, if_neg hf]
      exact ⟨rfl, h.turnP ho' ⟨hd, _, hp', by rw [← hm]; unfold msgsOf; rw [List.append_assoc], hh⟩ hok, ho'⟩
theorem br_put {w0 w : World} {pb cb rb n N : Nat} {ms rs : List MsgV} {K : Nat → Prop} (h : Both w0 w pb cb rb n N ms rs K) (h8 : n ≤ 8) (m : MsgP) (lv : Value) (hr : Reads w0 lv m.l.length (recCells m.l)) :
    Calls Try.prog 12 #[.pointer (some ⟨rb, 0, none⟩), .agg #[.int .i64 m.seq, .int .i64 m.bar, lv]] w fun e w' => e = .returned (.int .i64 (putE n m rs)) ∧ Both w0 w' pb cb rb n N ms (putL n m lv rs) K ∧ Only (fun k => k = rb) w w' := by
  obtain ⟨Lv, hp, hg⟩ := h.ref
  have hrw := hr.below h.bel
  have hok := ok_put (n := n) h.okR hr
  by_cases hmay : mayB m = false
  · refine (refput_bad w rb m lv hrw hmay).mono ?_
    rintro e w' ⟨rfl, hb⟩
    unfold putE putL
    rw [if_pos hmay, if_pos hmay]
    exact ⟨rfl, h.below hb, Only.below hb⟩
  · have hmay' : mayB m = true := by simpa using hmay
    by_cases hf : n ≤ rs.length
    · refine (refput_full w rb n N Lv rs hp m lv hrw hmay' hf).mono ?_
      rintro e w' ⟨rfl, hb⟩
      unfold putE putL
      rw [if_neg hmay, if_neg hmay, if_pos hf, if_pos hf]
      exact ⟨rfl, h.below hb, Only.below hb⟩
    · refine (refput_ok w rb n N Lv rs hp m lv hrw hmay' (by omega) h8 h.NW (ok_sl h.okR)).mono ?_
      rintro e w' ⟨Lv', rfl, ho, hp', hfr⟩
      unfold putL at hok ⊢
      unfold putE
      rw [if_neg hmay, if_neg hf] at hok ⊢
      rw [if_neg hmay, if_neg hf]
      exact ⟨rfl, h.turnR ho ⟨Lv', hp', fun _ g e hk => by have := hfr g e; have := (h.kk g hk).1; omega⟩ hok, ho⟩
theorem bp_head {w0 w : World} {pb cb rb n N : Nat} {ms rs : List MsgV} {K : Nat → Prop} (h : Both w0 w pb cb rb n N ms rs K) :
    Calls Try.prog 13 #[.pointer (some ⟨pb, 0, none⟩)] w fun e w' => e = .returned (.tuple #[headV ms, .int .i64 (headE ms)]) ∧ Both w0 w' pb cb rb n N ms rs K ∧ Only (fun k => k = pb ∨ k = cb) w w' := by
  obtain ⟨hd, q, hp, hm, hh⟩ := h.pipe
  cases ms with
  | nil =>
    refine (head_none' w pb cb n hd q hp hm).mono ?_
    rintro e w' ⟨rfl, hb⟩
    exact ⟨rfl, h.below hb, Only.below hb⟩
  | cons m rest =>
    refine (head_some2 w pb cb n hd q m rest hp hm (ok_sl h.okP m (by simp))).mono ?_
    rintro e w' ⟨rfl, hb, ho, hp', hfr⟩
    refine ⟨rfl, h.turnP ho ⟨_, _, hp', rfl, fun hb' m' e hk => ?_⟩ h.okP, ho⟩
    simp only [Option.some.injEq, Prod.mk.injEq] at e
    obtain ⟨rfl, rfl⟩ := e
    rcases hfr with ⟨x, e⟩ | e
    · exact hh _ _ e hk
    · have := (h.kk _ hk).1; omega
theorem br_head {w0 w : World} {pb cb rb n N : Nat} {ms rs : List MsgV} {K : Nat → Prop} (h : Both w0 w pb cb rb n N ms rs K) :
    Calls Try.prog 14 #[.pointer (some ⟨rb, 0, none⟩)] w fun e w' => e = .returned (.tuple #[headV rs, .int .i64 (headE rs)]) ∧ Both w0 w' pb cb rb n N ms rs K ∧ Only (fun k => k = rb) w w' := by
  obtain ⟨Lv, hp, hg⟩ := h.ref
  cases rs with
  | nil =>
    refine (refhead_none w rb n N Lv hp).mono ?_
    rintro e w' ⟨rfl, hb⟩
    exact ⟨rfl, h.below hb, Only.below hb⟩
  | cons m rest =>
    refine (refhead_some w rb n N Lv m rest hp (ok_sl h.okR m (by simp))).mono ?_
    rintro e w' ⟨rfl, hb⟩
    exact ⟨rfl, h.below hb, Only.below hb⟩
theorem bp_take {w0 w : World} {pb cb rb n N : Nat} {ms rs : List MsgV} {K : Nat → Prop} (h : Both w0 w pb cb rb n N ms rs K) :
    Calls Try.prog 15 #[.pointer (some ⟨pb, 0, none⟩)] w fun e w' => e = .returned (.tuple #[headV ms, .int .i64 (headE ms)]) ∧ Both w0 w' pb cb rb n N ms.tail rs K ∧ Only (fun k => k = pb ∨ k = cb) w w' := by
  obtain ⟨hd, q, hp, hm, hh⟩ := h.pipe
  cases ms with
  | nil =>
    refine (take_none w pb cb n hd q hp hm).mono ?_
    rintro e w' ⟨rfl, hb⟩
    exact ⟨rfl, h.below hb, Only.below hb⟩
  | cons m rest =>
    refine (take_some w pb cb n hd q m rest hp hm (ok_sl h.okP m (by simp))).mono ?_
    rintro e w' ⟨rfl, ho, hp'⟩
    exact ⟨rfl, h.turnP ho ⟨_, _, hp', rfl, fun hb' m' e => (by cases e)⟩ (fun x hx => h.okP x (List.mem_of_mem_tail hx)), ho⟩
theorem br_take {w0 w : World} {pb cb rb n N : Nat} {ms rs : List MsgV} {K : Nat → Prop} (h : Both w0 w pb cb rb n N ms rs K) :
    Calls Try.prog 16 #[.pointer (some ⟨rb, 0, none⟩)] w fun e w' => e = .returned (.tuple #[headV rs, .int .i64 (headE rs)]) ∧ Both w0 w' pb cb rb n N ms rs.tail K ∧ Only (fun k => k = rb) w w' := by
  obtain ⟨Lv, hp, hg⟩ := h.ref
  cases rs with
  | nil =>
    refine (reftake_none w rb n N Lv hp).mono ?_
    rintro e w' ⟨rfl, hb⟩
    exact ⟨rfl, h.below hb, Only.below hb⟩
  | cons m rest =>
    refine (reftake_some w rb n N Lv m rest hp (ok_sl h.okR m (by simp))).mono ?_
    rintro e w' ⟨Lv', rfl, ho, hp', hos⟩
    exact ⟨rfl, h.turnR ho ⟨Lv', hp', fun _ g e => hg (by simp) g (hos ▸ e)⟩ (fun x hx => h.okR x (List.mem_of_mem_tail hx)), ho⟩
theorem bp_len {w0 w : World} {pb cb rb n N : Nat} {ms rs : List MsgV} {K : Nat → Prop} (h : Both w0 w pb cb rb n N ms rs K) :
    Calls Try.prog 18 #[.pointer (some ⟨pb, 0, none⟩)] w fun e w' => e = .returned (.int .i64 (ms.length : Int)) ∧ w = w' := by
  obtain ⟨hd, q, hp, hm, -⟩ := h.pipe
  have := len_any w pb cb n hd q hp
  rw [← msgsOf_len, hm] at this
  exact this
theorem bp_room {w0 w : World} {pb cb rb n N : Nat} {ms rs : List MsgV} {K : Nat → Prop} (h : Both w0 w pb cb rb n N ms rs K) :
    Calls Try.prog 19 #[.pointer (some ⟨pb, 0, none⟩)] w fun e w' => e = .returned (.int .i64 ((n : Int) - (ms.length : Int))) ∧ w = w' := by
  obtain ⟨hd, q, hp, hm, -⟩ := h.pipe
  have h2 := room_any w pb cb n hd q hp
  have h3 := hp.room
  rw [← msgsOf_len, hm] at h2 h3
  rw [show ((n - ms.length : Nat) : Int) = (n : Int) - (ms.length : Int) by omega] at h2
  exact h2
theorem Both.ofNew {w w1 w2 : World} {n : Nat} (hb1 : Below w.heap.size w w1) (hp : PipeAt w1 (w.heap.size + 1) w.heap.size n none []) (hb2 : Below w1.heap.size w1 w2) (hs : w1.heap.size < w2.heap.size) (hr : RefAt w2 w1.heap.size n (w1.heap.size + 1) (.slice none 0 0) []) :
    Both w w2 (w.heap.size + 1) w.heap.size w1.heap.size n (w1.heap.size + 1) [] [] (fun _ => False) := by
  obtain ⟨l1, l2, -⟩ := hp.lt
  exact ⟨bel_trans hb1 hb2, by omega, Nat.le_refl _, hb1.size, by omega, by omega, by omega, by omega, hs, ⟨none, [], hp.below hb2, rfl, fun _ _ _ h => h⟩, ⟨_, hr, fun _ _ _ h => h⟩, fun _ h => h.elim, fun m hm => (by cases hm), fun m hm => (by cases hm)⟩

end Go.Proofs.Ytgoglcggnmfapaa
