/-
  The pipe in memory; New, Len, Room, Put, Head, Take walked.
-/
import Derived.Test.YtgoglcggnmfapaaPipeMay
import Derived.Test.YtgoglcggnmfapaaComm
import Derived.Conc.LoneSelectN
namespace Go.Proofs.Ytgoglcggnmfapaa
open Go.RowKit Go.Conc

/-- What a step may change: the blocks of S, and new ones. -/
structure Only (S : Nat → Prop) (w w' : World) : Prop where
  os : w'.os = w.os
  tape : w'.tape = w.tape
  output : w'.output = w.output
  size : w.heap.size ≤ w'.heap.size
  block : ∀ k, k < w.heap.size → ¬ S k → w'.heap[k]? = w.heap[k]?

theorem Only.refl (S : Nat → Prop) (w : World) : Only S w w := ⟨rfl, rfl, rfl, Nat.le_refl _, fun _ _ _ => rfl⟩
theorem Only.trans {S : Nat → Prop} {a b c : World} (h : Only S a b) (k : Only S b c) : Only S a c :=
  ⟨k.os.trans h.os, k.tape.trans h.tape, k.output.trans h.output, Nat.le_trans h.size k.size, fun i hi hs => (k.block i (Nat.lt_of_lt_of_le hi h.size) hs).trans (h.block i hi hs)⟩
theorem Only.below {S : Nat → Prop} {a b : World} (h : Below a.heap.size a b) : Only S a b := ⟨h.os, h.tape, h.output, h.size, fun k hk _ => h.block k hk⟩
theorem Only.setCell (S : Nat → Prop) (w : World) (p : Addr) (v : Value) (h : S p.block) : Only S w (w.setCell p v) :=
  ⟨rfl, rfl, rfl, by simp, fun k _ hs => Below.heap_setCell _ _ _ _ (fun e => hs (e ▸ h))⟩
theorem Only.setChan (S : Nat → Prop) (w : World) (c cap : Nat) (buf : Array Value) (cl : Bool) (s r : Nat) (tm : Bool) (h : S c) : Only S w (w.setChan c cap buf cl s r tm) :=
  ⟨rfl, rfl, rfl, by simp [World.setChan], fun k _ hs => by
    simp only [World.setChan]
    exact Array.getElem?_setIfInBounds_ne (fun e => hs (by rw [← e]; exact h))⟩
theorem Only.mono {S T : Nat → Prop} {a b : World} (h : Only S a b) (k : ∀ i, S i → T i) : Only T a b := ⟨h.os, h.tape, h.output, h.size, fun i hi ht => h.block i hi (fun hs => ht (k i hs))⟩
theorem Only.toBelow {S : Nat → Prop} {a b : World} {B : Nat} (h : Only S a b) (hB : B ≤ a.heap.size) (hS : ∀ i, S i → B ≤ i) : Below B a b :=
  ⟨h.os, h.tape, h.output, h.size, fun k hk => h.block k (by omega) (fun hs => by have := hS k hs; omega)⟩

/-- A message's value. -/
structure MsgV where
  seq : Int
  bar : Int
  lv : Value
def MsgV.val (m : MsgV) : Value := .agg #[.int .i64 m.seq, .int .i64 m.bar, m.lv]
def zeroMsg : Value := .agg #[.int .i64 0, .int .i64 0, .slice none 0 0]

def hptr : Option (Nat × MsgV) → Value
  | none => .pointer none
  | some (hb, _) => .pointer (some ⟨hb, 0, none⟩)
def held : Option (Nat × MsgV) → Nat
  | none => 0
  | some _ => 1

/-- A pipe: block pb, its channel cb; the message at hand; those in the channel. -/
structure PipeAt (w : World) (pb cb cap : Nat) (hd : Option (Nat × MsgV)) (q : List MsgV) : Prop where
  pipe : w.heap[pb]? = some (.cells #[.chan (some cb), hptr hd] 58)
  chan : ∃ s r, w.heap[cb]? = some (.chan cap (q.map MsgV.val).toArray false s r false)
  head : ∀ hb m, hd = some (hb, m) → w.heap[hb]? = some (.cells #[.int .i64 m.seq, .int .i64 m.bar, m.lv] 33)
  room : q.length + held hd ≤ cap
  capB : cap ≤ 8

theorem cells_at {w : World} {b : Nat} {c : Array Value} {T : TypeId} (h : w.heap[b]? = some (.cells c T)) (i : Nat) (v : Value) (hv : c[i]? = some v) : w.cell? ⟨b, i, none⟩ = some v := by
  simp [World.cell?, h, hv]
theorem cells_free {w : World} {b : Nat} {c : Array Value} {T : TypeId} (h : w.heap[b]? = some (.cells c T)) (i : Nat) : w.frozen? ⟨b, i, none⟩ = false := by
  simp [World.frozen?, h]

theorem PipeAt.kept {w w' : World} {pb cb cap : Nat} {hd : Option (Nat × MsgV)} {q : List MsgV} (h : PipeAt w pb cb cap hd q) (h1 : w'.heap[pb]? = w.heap[pb]?) (h2 : w'.heap[cb]? = w.heap[cb]?) (h3 : ∀ hb m, hd = some (hb, m) → w'.heap[hb]? = w.heap[hb]?) : PipeAt w' pb cb cap hd q :=
  ⟨h1.trans h.pipe, by obtain ⟨s, r, e⟩ := h.chan; exact ⟨s, r, h2.trans e⟩, fun hb m e => (h3 hb m e).trans (h.head hb m e), h.room, h.capB⟩

theorem PipeAt.lt {w : World} {pb cb cap : Nat} {hd : Option (Nat × MsgV)} {q : List MsgV} (h : PipeAt w pb cb cap hd q) : pb < w.heap.size ∧ cb < w.heap.size ∧ ∀ hb m, hd = some (hb, m) → hb < w.heap.size := by
  obtain ⟨s, r, hch⟩ := h.chan
  exact ⟨(Array.getElem?_eq_some_iff.1 h.pipe).1, (Array.getElem?_eq_some_iff.1 hch).1, fun x y e => (Array.getElem?_eq_some_iff.1 (h.head x y e)).1⟩
theorem PipeAt.below {w w' : World} {pb cb cap : Nat} {hd : Option (Nat × MsgV)} {q : List MsgV} (h : PipeAt w pb cb cap hd q) (hb : Below w.heap.size w w') : PipeAt w' pb cb cap hd q :=
  h.kept (hb.block _ h.lt.1) (hb.block _ h.lt.2.1) (fun x y e => hb.block _ (h.lt.2.2 x y e))
theorem PipeAt.ne {w : World} {pb cb cap : Nat} {hd : Option (Nat × MsgV)} {q : List MsgV} (h : PipeAt w pb cb cap hd q) : pb ≠ cb := by
  obtain ⟨s, r, hch⟩ := h.chan
  rintro rfl
  have := h.pipe.symm.trans hch
  simp at this
theorem PipeAt.ne2 {w : World} {pb cb cap : Nat} {hd : Option (Nat × MsgV)} {q : List MsgV} (h : PipeAt w pb cb cap hd q) : ∀ hb m, hd = some (hb, m) → hb ≠ cb := by
  obtain ⟨s, r, hch⟩ := h.chan
  rintro hb m e rfl
  have := (h.head _ m e).symm.trans hch
  simp at this
theorem PipeAt.ne3 {w : World} {pb cb cap : Nat} {hd : Option (Nat × MsgV)} {q : List MsgV} (h : PipeAt w pb cb cap hd q) : ∀ hb m, hd = some (hb, m) → hb ≠ pb := by
  rintro hb m e rfl
  have := (h.head _ m e).symm.trans h.pipe
  simp at this

theorem setChan_other (w : World) (c c' cap : Nat) (buf : Array Value) (cl : Bool) (s r : Nat) (tm : Bool) (h : c ≠ c') : (w.setChan c cap buf cl s r tm).heap[c']? = w.heap[c']? := by
  simp [World.setChan, Array.getElem?_setIfInBounds_ne h]

theorem len_any (w : World) (pb cb cap : Nat) (hd : Option (Nat × MsgV)) (q : List MsgV) (h : PipeAt w pb cb cap hd q) :
    Calls Try.prog 18 #[.pointer (some ⟨pb, 0, none⟩)] w fun e w' => e = .returned (.int .i64 ((q.length + held hd : Nat) : Int)) ∧ w = w' := by
  obtain ⟨s, r, hch⟩ := h.chan
  have c0 := cells_at h.pipe 0 (.chan (some cb)) rfl
  have c1 := cells_at h.pipe 1 (hptr hd) rfl
  have hrm := h.room
  have hcb := h.capB
  have hsz : (q.map MsgV.val).toArray.size = q.length := by simp
  have hlen := fun ty => run_len_chan (P := Try.prog) 55 ty Try.underlying55 hch
  rw [hsz] at hlen
  cases hd with
  | none =>
    simp only [hptr] at c1
    clear h hch hsz hrm hcb
    go_enter Try.func18, Try.ntmps18
    go_wp2_with fail
    go_ret
    exact ⟨rfl, rfl⟩
  | some x =>
    simp only [hptr, held] at c1 hrm
    clear h hch hsz
    go_enter Try.func18, Try.ntmps18
    go_wp2_with fail
    go_ret
    exact ⟨rfl, rfl⟩

theorem room_any (w : World) (pb cb cap : Nat) (hd : Option (Nat × MsgV)) (q : List MsgV) (h : PipeAt w pb cb cap hd q) :
    Calls Try.prog 19 #[.pointer (some ⟨pb, 0, none⟩)] w fun e w' => e = .returned (.int .i64 ((cap - (q.length + held hd) : Nat) : Int)) ∧ w = w' := by
  obtain ⟨s, r, hch⟩ := h.chan
  have c0 := cells_at h.pipe 0 (.chan (some cb)) rfl
  have hrm := h.room
  have hcb := h.capB
  have hcap := fun ty => run_cap_chan (P := Try.prog) 55 ty Try.underlying55 hch
  have H := Lib.hid h
  obtain ⟨n, hn⟩ : ∃ n, q.length + held hd = n := ⟨_, rfl⟩
  rw [hn] at hrm ⊢
  have HN := Lib.hid hn
  clear h hch hn
  go_enter Try.func19, Try.ntmps19
  go_wp2_with fail
  refine (len_any _ pb cb cap hd q H.out).mono ?_
  rintro e w' ⟨rfl, rfl⟩
  rw [HN.out]
  go_wp2_with fail
  go_ret
  exact ⟨ret_int (by omega), rfl⟩

theorem put_bad (w : World) (pb : Nat) (m : MsgP) (lv : Value) (hr : Reads w lv m.l.length (recCells m.l)) (hm : mayB m = false) :
    Calls Try.prog 11 #[.pointer (some ⟨pb, 0, none⟩), .agg #[.int .i64 m.seq, .int .i64 m.bar, lv]] w fun e w' => e = .returned (.int .i64 2) ∧ Below w.heap.size w w' := by
  have HR := Lib.hid (hr.below (bel_alloc w (.cells #[.int .i64 m.seq, .int .i64 m.bar, lv] 33)))
  obtain ⟨a, c, rfl⟩ := hr.shape
  have HM := Lib.hid hm
  clear hr hm
  go_enter Try.func11, Try.ntmps11
  go_wp2_with fail
  refine (may_any m _ _ HR.out).mono ?_
  rintro e w1 ⟨rfl, hb1⟩
  rw [HM.out]
  go_wp2_with fail
  go_ret
  exact ⟨rfl, bel_trans (bel_alloc _ _) hb1⟩

theorem put_full (w : World) (pb cb cap : Nat) (hd : Option (Nat × MsgV)) (q : List MsgV) (h : PipeAt w pb cb cap hd q) (m : MsgP) (lv : Value) (hr : Reads w lv m.l.length (recCells m.l)) (hm : mayB m = true) (hf : q.length + held hd = cap) :
    Calls Try.prog 11 #[.pointer (some ⟨pb, 0, none⟩), .agg #[.int .i64 m.seq, .int .i64 m.bar, lv]] w fun e w' => e = .returned (.int .i64 7) ∧ Below w.heap.size w w' := by
  have HR := Lib.hid (hr.below (bel_alloc w (.cells #[.int .i64 m.seq, .int .i64 m.bar, lv] 33)))
  obtain ⟨a, c, rfl⟩ := hr.shape
  have HM := Lib.hid hm
  have hk : ∀ w1, Below w.heap.size w w1 → PipeAt w1 pb cb cap hd q := fun w1 hb => h.below hb
  have HK := Lib.hid hk
  have HF := Lib.hid hf
  clear hr hm hk h hf
  go_enter Try.func11, Try.ntmps11
  go_wp2_with fail
  refine (may_any m _ _ HR.out).mono ?_
  rintro e w1 ⟨rfl, hb1⟩
  rw [HM.out]
  have hb := bel_trans (bel_alloc w _) hb1
  clear hb1
  go_wp2_with fail
  refine (room_any _ pb cb cap hd q (HK.out _ hb)).mono ?_
  rintro e w2 ⟨rfl, rfl⟩
  rw [HF.out, Nat.sub_self]
  go_wp2_with fail
  go_ret
  exact ⟨rfl, hb⟩

set_option maxHeartbeats 1000000 in
theorem put_ok (w : World) (pb cb cap : Nat) (hd : Option (Nat × MsgV)) (q : List MsgV) (h : PipeAt w pb cb cap hd q) (m : MsgP) (lv : Value) (hr : Reads w lv m.l.length (recCells m.l)) (hm : mayB m = true) (hf : q.length + held hd < cap) :
    Calls Try.prog 11 #[.pointer (some ⟨pb, 0, none⟩), .agg #[.int .i64 m.seq, .int .i64 m.bar, lv]] w fun e w' => e = .returned (.int .i64 0) ∧ Only (fun k => k = cb) w w' ∧ PipeAt w' pb cb cap hd (q ++ [⟨m.seq, m.bar, lv⟩]) := by
  have HR := Lib.hid (hr.below (bel_alloc w (.cells #[.int .i64 m.seq, .int .i64 m.bar, lv] 33)))
  obtain ⟨a, c, rfl⟩ := hr.shape
  have HM := Lib.hid hm
  have hk : ∀ w1, Below w.heap.size w w1 → PipeAt w1 pb cb cap hd q := fun w1 hb => h.below hb
  have HK := Lib.hid hk
  have HF := Lib.hid hf
  have hroom : (q.map MsgV.val).toArray.size < cap := by simp; omega
  have HRM := Lib.hid hroom
  have hne := h.ne
  have hne2 := h.ne2
  clear hr hm hk hf hroom
  refine calls_of_runs Try.func11 rfl ?_
  simp only [Try.ntmps11, List.size_toArray, List.length_cons, List.length_nil, Nat.reduceAdd, Nat.reduceSub, Array.replicate_succ, Array.replicate_zero, List.push_toArray, List.append_toArray, List.nil_append, List.cons_append]
  refine RunsTo.seq (RunsTo.of ?_)
  go_wp2_with fail
  refine RunsTo.seq (RunsTo.of ?_)
  go_wp2_with fail
  refine (may_any m _ _ HR.out).mono ?_
  rintro e w1 ⟨rfl, hb1⟩
  rw [HM.out]
  have hmB : w1.heap[w.heap.size]? = some (.cells #[.int .i64 m.seq, .int .i64 m.bar, .slice a m.l.length c] 33) := (hb1.block _ (by simp)).trans (heap_alloc_new w _)
  have hb := bel_trans (bel_alloc w _) hb1
  clear hb1
  have m0 := cells_at hmB 0 _ rfl
  have m1 := cells_at hmB 1 _ rfl
  have m2 := cells_at hmB 2 _ rfl
  have hP := HK.out _ hb
  obtain ⟨s, r, hch⟩ := hP.chan
  have c0 := cells_at hP.pipe 0 (.chan (some cb)) rfl
  have HP := Lib.hid hP
  have HCH := Lib.hid hch
  clear hP hch
  go_wp2_with fail
  refine (room_any _ pb cb cap hd q HP.out).mono ?_
  rintro e w2 ⟨rfl, rfl⟩
  have hd0 : (((cap - (q.length + held hd) : Nat) : Int) == 0) = false := beq_eq_false_iff_ne.2 (by have := HF.out; omega)
  go_wp2_with fail
  refine RunsTo.seq (RunsTo.of ?_)
  go_wp2_with fail
  refine RunsTo.seq ?_
  refine RunsTo.send (c := cb) (cap := cap) (buf := (q.map MsgV.val).toArray) (s := s) (r := r) (v := .agg #[.int .i64 m.seq, .int .i64 m.bar, .slice a m.l.length c]) (z := zeroMsg) rfl ?_ HCH.out HRM.out ?_
  · simp [go_sem, execOp, scase, Act.eval]
    rfl
  · go_wp2_with fail
    refine RunsTo.of ?_
    go_wp2_with fail
    go_ret
    have hP := HP.out
    refine ⟨rfl, ((Only.below hb).trans (Only.setChan _ _ _ _ _ _ _ _ _ rfl)), ?_⟩
    have hcl := (Array.getElem?_eq_some_iff.1 HCH.out).1
    refine ⟨(setChan_other _ _ _ _ _ _ _ _ _ (fun e => hne e.symm)).trans hP.pipe, ⟨s + 1, r, ?_⟩, fun x y e => (setChan_other _ _ _ _ _ _ _ _ _ (fun e' => hne2 x y e e'.symm)).trans (hP.head x y e), ?_, hP.capB⟩
    · rw [heap_setChan _ _ _ _ _ _ _ _ hcl]
      simp [MsgV.val]
    · have := HF.out
      simp only [List.length_append, List.length_cons, List.length_nil]
      omega

theorem cells_set {w : World} {b : Nat} {c : Array Value} {T : TypeId} (h : w.heap[b]? = some (.cells c T)) (i : Nat) (v : Value) : (w.setCell ⟨b, i, none⟩ v).heap[b]? = some (.cells (c.setIfInBounds i v) T) := by
  obtain ⟨hlt, hk⟩ := Array.getElem?_eq_some_iff.1 h
  show (w.heap.modify b _)[b]? = _
  rw [Array.getElem?_eq_getElem (by rw [Array.size_modify]; exact hlt), Array.getElem_modify_self, hk]
  rfl
/-- Three stores into a block of three cells. -/
theorem cells_set3 {w : World} {b : Nat} {x y z : Value} {T : TypeId} (h : w.heap[b]? = some (.cells #[x, y, z] T)) (x' y' z' : Value) :
    (((w.setCell ⟨b, 0, none⟩ x').setCell ⟨b, 1, none⟩ y').setCell ⟨b, 2, none⟩ z').heap[b]? = some (.cells #[x', y', z'] T) := by
  have h1 := cells_set (cells_set (cells_set h 0 x') 1 y') 2 z'
  rw [h1]; simp
theorem set3_other {w : World} {b k : Nat} {x' y' z' : Value} (hne : k ≠ b) :
    (((w.setCell ⟨b, 0, none⟩ x').setCell ⟨b, 1, none⟩ y').setCell ⟨b, 2, none⟩ z').heap[k]? = w.heap[k]? := by
  rw [Below.heap_setCell _ _ _ _ (by exact hne), Below.heap_setCell _ _ _ _ (by exact hne), Below.heap_setCell _ _ _ _ (by exact hne)]
theorem Only.set3 (S : Nat → Prop) (w : World) (b : Nat) (x' y' z' : Value) (h : S b) : Only S w (((w.setCell ⟨b, 0, none⟩ x').setCell ⟨b, 1, none⟩ y').setCell ⟨b, 2, none⟩ z') :=
  ((Only.setCell S w ⟨b, 0, none⟩ _ h).trans (Only.setCell S _ ⟨b, 1, none⟩ _ h)).trans (Only.setCell S _ ⟨b, 2, none⟩ _ h)
theorem below_set3 {w W : World} (h : Below w.heap.size w W) (b : Nat) (hb : w.heap.size ≤ b) (x' y' z' : Value) : Below w.heap.size w (((W.setCell ⟨b, 0, none⟩ x').setCell ⟨b, 1, none⟩ y').setCell ⟨b, 2, none⟩ z') :=
  ((h.setCell (p := ⟨b, 0, none⟩) hb _).setCell (p := ⟨b, 1, none⟩) hb _).setCell (p := ⟨b, 2, none⟩) hb _

theorem head_none (w : World) (pb cb cap : Nat) (h : PipeAt w pb cb cap none []) :
    Calls Try.prog 13 #[.pointer (some ⟨pb, 0, none⟩)] w fun e w' => e = .returned (.tuple #[zeroMsg, .int .i64 4]) ∧ Below w.heap.size w w' := by
  obtain ⟨W, hW⟩ : ∃ W, w.alloc (.cells #[.int .i64 0, .int .i64 0, .slice none 0 0] 33) = W := ⟨_, rfl⟩
  have hbW : Below w.heap.size w W := by rw [← hW]; exact bel_alloc _ _
  have hres : W.heap[w.heap.size]? = some (.cells #[.int .i64 0, .int .i64 0, .slice none 0 0] 33) := by rw [← hW]; exact heap_alloc_new w _
  have hP := h.below hbW
  have c0 := cells_at hP.pipe 0 (.chan (some cb)) rfl
  have c1 := cells_at hP.pipe 1 (.pointer none) rfl
  obtain ⟨s, r, hch⟩ := hP.chan
  have HW := Lib.hid hW
  have HBW := Lib.hid hbW
  have HRES := Lib.hid hres
  have HCH := Lib.hid hch
  clear hW hbW hres hP hch h
  refine calls_of_runs Try.func13 rfl ?_
  simp only [Try.ntmps13, List.size_toArray, List.length_cons, List.length_nil, Nat.reduceAdd, Nat.reduceSub, Array.replicate_succ, Array.replicate_zero, List.push_toArray, List.append_toArray, List.nil_append, List.cons_append]
  refine RunsTo.seq (RunsTo.of ?_)
  go_wp2_with fail
  rw [HW.out]
  refine RunsTo.seq (RunsTo.of ?_)
  go_wp2_with fail
  refine RunsTo.seq (RunsTo.of ?_)
  go_wp2_with fail
  refine RunsTo.seq (RunsTo.of ?_)
  go_wp2_with fail
  refine RunsTo.seq ?_
  refine RunsTo.empty (c := cb) (cap := cap) (s := s) (r := r) (z := zeroMsg) rfl ?_ HCH.out ?_
  · simp [go_sem, execOp, rcase, Act.eval]
    rfl
  · go_wp2_with fail
    refine RunsTo.of ?_
    have f0 := cells_at HRES.out 0 _ rfl
    have f1 := cells_at HRES.out 1 _ rfl
    have f2 := cells_at HRES.out 2 _ rfl
    have z0 := cells_free HRES.out 0
    have z1 := cells_free HRES.out 1
    have z2 := cells_free HRES.out 2
    go_wp2_with fail
    have hr := cells_set3 HRES.out (.int .i64 0) (.int .i64 0) (.slice none 0 0)
    have q0 := cells_at hr 0 _ rfl
    have q1 := cells_at hr 1 _ rfl
    have q2 := cells_at hr 2 _ rfl
    refine bodyPost_ret (v := .tuple #[zeroMsg, .int .i64 4]) (by simp [results, Try.results13, go_sem, q0, q1, q2, zeroMsg]) rfl ⟨rfl, ?_⟩
    exact below_set3 HBW.out _ (Nat.le_refl _) _ _ _

set_option maxHeartbeats 1000000 in
theorem head_held (w : World) (pb cb cap hb : Nat) (m : MsgV) (q : List MsgV) (h : PipeAt w pb cb cap (some (hb, m)) q) (hlv : ∃ a n c, m.lv = .slice a n c) :
    Calls Try.prog 13 #[.pointer (some ⟨pb, 0, none⟩)] w fun e w' => e = .returned (.tuple #[m.val, .int .i64 0]) ∧ Below w.heap.size w w' := by
  obtain ⟨a, n, c, hlv⟩ := hlv
  obtain ⟨W, hW⟩ : ∃ W, w.alloc (.cells #[.int .i64 0, .int .i64 0, .slice none 0 0] 33) = W := ⟨_, rfl⟩
  have hbW : Below w.heap.size w W := by rw [← hW]; exact bel_alloc _ _
  have hres : W.heap[w.heap.size]? = some (.cells #[.int .i64 0, .int .i64 0, .slice none 0 0] 33) := by rw [← hW]; exact heap_alloc_new w _
  have hP := h.below hbW
  have c0 := cells_at hP.pipe 0 (.chan (some cb)) rfl
  have c1 := cells_at hP.pipe 1 (.pointer (some ⟨hb, 0, none⟩)) rfl
  have hm := hP.head hb m rfl
  have m0 := cells_at hm 0 (.int .i64 m.seq) rfl
  have m1 := cells_at hm 1 (.int .i64 m.bar) rfl
  have m2 := cells_at hm 2 m.lv rfl
  rw [hlv] at m2
  have f0 := cells_at hres 0 (.int .i64 0) rfl
  have f1 := cells_at hres 1 (.int .i64 0) rfl
  have f2 := cells_at hres 2 (.slice none 0 0) rfl
  have z0 := cells_free hres 0
  have z1 := cells_free hres 1
  have z2 := cells_free hres 2
  have HBW := Lib.hid hbW
  have HRES := Lib.hid hres
  have hv : m.val = .agg #[.int .i64 m.seq, .int .i64 m.bar, .slice a n c] := by unfold MsgV.val; rw [hlv]
  rw [hv]
  subst hW
  clear hbW hres hP h hm hv hlv
  go_enter Try.func13, Try.ntmps13
  go_wp2_with fail
  refine bodyPost_ret (v := .tuple #[.agg #[.int .i64 m.seq, .int .i64 m.bar, .slice a n c], .int .i64 0]) (by simp [results, Try.results13, go_sem]) rfl ⟨rfl, ?_⟩
  exact bel_alloc _ _

set_option maxHeartbeats 1000000 in
theorem head_recv (w : World) (pb cb cap : Nat) (m : MsgV) (q : List MsgV) (h : PipeAt w pb cb cap none (m :: q)) (hlv : ∃ a n c, m.lv = .slice a n c) :
    Calls Try.prog 13 #[.pointer (some ⟨pb, 0, none⟩)] w fun e w' => e = .returned (.tuple #[m.val, .int .i64 0]) ∧ ∃ hb, w.heap.size ≤ hb ∧ Only (fun k => k = pb ∨ k = cb) w w' ∧ PipeAt w' pb cb cap (some (hb, m)) q := by
  obtain ⟨a, n, c, hlv⟩ := hlv
  obtain ⟨W, hW⟩ : ∃ W, w.alloc (.cells #[.int .i64 0, .int .i64 0, .slice none 0 0] 33) = W := ⟨_, rfl⟩
  have hbW : Below w.heap.size w W := by rw [← hW]; exact bel_alloc _ _
  have hres : W.heap[w.heap.size]? = some (.cells #[.int .i64 0, .int .i64 0, .slice none 0 0] 33) := by rw [← hW]; exact heap_alloc_new w _
  have hP := h.below hbW
  have c0 := cells_at hP.pipe 0 (.chan (some cb)) rfl
  have c1 := cells_at hP.pipe 1 (.pointer none) rfl
  obtain ⟨s, r, hch⟩ := hP.chan
  have hv : m.val = .agg #[.int .i64 m.seq, .int .i64 m.bar, .slice a n c] := by unfold MsgV.val; rw [hlv]
  have hex : ((m :: q).map MsgV.val).toArray.extract 1 ((m :: q).map MsgV.val).toArray.size = (q.map MsgV.val).toArray := by
    simp
    exact List.take_of_length_le (by simp)
  have hgd : ((m :: q).map MsgV.val).toArray.getD 0 undef = .agg #[.int .i64 m.seq, .int .i64 m.bar, .slice a n c] := by rw [← hv]; simp
  have hlt := h.lt
  have hne := h.ne
  have hwne : w.heap.size ≠ cb := by have := hlt.2.1; omega
  have hwne2 : w.heap.size ≠ pb := by have := hlt.1; omega
  obtain ⟨W1, hW1⟩ : ∃ W1, W.setChan cb cap (q.map MsgV.val).toArray false s (r + 1) false = W1 := ⟨_, rfl⟩
  have hpipe1 : W1.heap[pb]? = some (.cells #[.chan (some cb), .pointer none] 58) := by rw [← hW1, setChan_other _ _ _ _ _ _ _ _ _ (fun e => hne e.symm)]; exact hP.pipe
  have hres1 : W1.heap[w.heap.size]? = some (.cells #[.int .i64 0, .int .i64 0, .slice none 0 0] 33) := by rw [← hW1, setChan_other _ _ _ _ _ _ _ _ _ (fun e => hwne e.symm)]; exact hres
  have hch1 : W1.heap[cb]? = some (.chan cap (q.map MsgV.val).toArray false s (r + 1) false) := by rw [← hW1, heap_setChan _ _ _ _ _ _ _ _ (Array.getElem?_eq_some_iff.1 hch).1]
  have hon1 : Only (fun k => k = pb ∨ k = cb) w W1 := by rw [← hW1]; exact (Only.below hbW).trans (Only.setChan _ _ _ _ _ _ _ _ _ (.inr rfl))
  have hsz1 : W1.heap.size = w.heap.size + 1 := by rw [← hW1, size_setChan, ← hW]; simp
  have HW := Lib.hid hW
  have HW1 := Lib.hid hW1
  have HCH := Lib.hid hch
  have HEX := Lib.hid hex
  have HGD := Lib.hid hgd
  have HP1 := Lib.hid hpipe1
  have HR1 := Lib.hid hres1
  have HC1 := Lib.hid hch1
  have HO1 := Lib.hid hon1
  have HS1 := Lib.hid hsz1
  have HRM := Lib.hid (show q.length + 1 ≤ cap ∧ cap ≤ 8 from ⟨by have := h.room; simp at this; omega, h.capB⟩)
  have HV := Lib.hid hv
  have HLV := Lib.hid hlv
  clear hW hW1 hbW hres hP hch h hex hgd hlt hpipe1 hres1 hch1 hon1 hsz1 hv hlv
  refine calls_of_runs Try.func13 rfl ?_
  simp only [Try.ntmps13, List.size_toArray, List.length_cons, List.length_nil, Nat.reduceAdd, Nat.reduceSub, Array.replicate_succ, Array.replicate_zero, List.push_toArray, List.append_toArray, List.nil_append, List.cons_append]
  refine RunsTo.seq (RunsTo.of ?_)
  go_wp2_with fail
  rw [HW.out]
  refine RunsTo.seq (RunsTo.of ?_)
  go_wp2_with fail
  refine RunsTo.seq (RunsTo.of ?_)
  go_wp2_with fail
  refine RunsTo.seq (RunsTo.of ?_)
  go_wp2_with fail
  refine RunsTo.seq ?_
  refine RunsTo.recv (c := cb) (cap := cap) (s := s) (r := r) (z := zeroMsg) rfl ?_ HCH.out (by simp) ?_
  · simp [go_sem, execOp, rcase, Act.eval]
    rfl
  · rw [HEX.out, HGD.out, HW1.out]
    go_wp2_with fail
    refine RunsTo.of ?_
    have f0 := cells_at HR1.out 0 _ rfl
    have f1 := cells_at HR1.out 1 _ rfl
    have f2 := cells_at HR1.out 2 _ rfl
    have z0 := cells_free HR1.out 0
    have z1 := cells_free HR1.out 1
    have z2 := cells_free HR1.out 2
    have p0 := cells_at HP1.out 0 _ rfl
    have p1 := cells_at HP1.out 1 _ rfl
    have y1 := cells_free HP1.out 1
    have hls : pb < W1.heap.size := (Array.getElem?_eq_some_iff.1 HP1.out).1
    have hls2 : w.heap.size < W1.heap.size := (Array.getElem?_eq_some_iff.1 HR1.out).1
    go_wp2_with fail
    obtain ⟨X, hX⟩ : ∃ X, ((((W1.setCell ⟨pb, 1, none⟩ (.pointer (some ⟨W1.heap.size, 0, none⟩))).setCell ⟨w.heap.size, 0, none⟩ (.int .i64 m.seq)).setCell ⟨w.heap.size, 1, none⟩ (.int .i64 m.bar)).setCell ⟨w.heap.size, 2, none⟩ (.slice a n c)) = X := ⟨_, rfl⟩
    have hXs : X.heap.size = W1.heap.size := by rw [← hX]; simp
    have hpb : X.heap[pb]? = some (.cells #[.chan (some cb), .pointer (some ⟨W1.heap.size, 0, none⟩)] 58) := by
      rw [← hX, set3_other (fun e => hwne2 e.symm), cells_set HP1.out]; simp
    have hcb : X.heap[cb]? = some (.chan cap (q.map MsgV.val).toArray false s (r + 1) false) := by
      rw [← hX, set3_other (fun e => hwne e.symm), Below.heap_setCell _ _ _ _ (fun e => hne e.symm)]; exact HC1.out
    have hrs : X.heap[w.heap.size]? = some (.cells #[.int .i64 m.seq, .int .i64 m.bar, .slice a n c] 33) := by
      rw [← hX]
      exact cells_set3 ((Below.heap_setCell _ _ _ _ hwne2).trans HR1.out) _ _ _
    have hon : Only (fun k => k = pb ∨ k = cb) w X := by
      have h1 := HO1.out.trans (Only.setCell (fun k => k = pb ∨ k = cb) W1 ⟨pb, 1, none⟩ (.pointer (some ⟨W1.heap.size, 0, none⟩)) (.inl rfl))
      refine ⟨by rw [← hX]; exact h1.os, by rw [← hX]; exact h1.tape, by rw [← hX]; exact h1.output, by have := HS1.out; omega, fun k hk hs => ?_⟩
      rw [← hX, set3_other (by omega)]
      exact h1.block k hk hs
    rw [hX]
    obtain ⟨o, ho⟩ : ∃ o, (Obj.cells #[.int .i64 m.seq, .int .i64 m.bar, .slice a n c] 33) = o := ⟨_, rfl⟩
    have hold : ∀ k, k < X.heap.size → (X.alloc o).heap[k]? = X.heap[k]? := fun k hk => Below.heap_alloc X o k hk
    have hr5 := (hold _ (by omega)).trans hrs
    have q0 := cells_at hr5 0 _ rfl
    have q1 := cells_at hr5 1 _ rfl
    have q2 := cells_at hr5 2 _ rfl
    rw [ho]
    refine bodyPost_ret (v := .tuple #[.agg #[.int .i64 m.seq, .int .i64 m.bar, .slice a n c], .int .i64 0]) (by simp [results, Try.results13, go_sem, q0, q1, q2]) rfl ⟨by rw [HV.out], W1.heap.size, by omega, hon.trans (Only.below (bel_alloc _ _)), ?_⟩
    refine ⟨(hold _ (by omega)).trans hpb, ⟨s, r + 1, (hold _ (Array.getElem?_eq_some_iff.1 hcb).1).trans hcb⟩, ?_, HRM.out.1, HRM.out.2⟩
    intro hb' m' e
    cases e
    rw [← hXs, ← ho, heap_alloc_new, HLV.out]

end Go.Proofs.Ytgoglcggnmfapaa
