/-
  The disk, plainly: what each call answers, and what it leaves.
-/
import Derived.WalkKit
namespace Go.Proofs.Ytllecjhfbojgcaa
namespace Dk

/-- A change. -/
inductive Ch where
  | app (f : Nat) (s : ByteArray)
  | cut (f n : Nat)
  | mov (a b : Nat)

abbrev Files := List ByteArray
def at' (fs : Files) (i : Nat) : ByteArray := fs.getD i ByteArray.empty
def none' : Files := List.replicate 16 ByteArray.empty

/-- So many bytes of n. -/
def clip (bytes : Int) (n : Nat) : Nat := (max (min bytes (n : Int)) 0).toNat
theorem clip_le (bytes : Int) (n : Nat) : clip bytes n ≤ n := by unfold clip; omega
theorem clip_all (n : Nat) : clip (n : Int) n = n := by unfold clip; omega

def part (f : Nat) (s : ByteArray) (k : Nat) (fs : Files) : Files := fs.set f (at' fs f ++ s.extract 0 k)
def Ch.run : Ch → Files → Files
  | .app f s, fs => fs.set f (at' fs f ++ s)
  | .cut f n, fs => fs.set f ((at' fs f).extract 0 n)
  | .mov a b, fs => (fs.set b (at' fs a)).set a ByteArray.empty

def total (fs : Files) : Nat := (fs.map ByteArray.size).foldr (· + ·) 0

def Ch.ok (c : Ch) (fs : Files) : Prop := match c with
  | .app f _ => f < 16
  | .cut f n => f < 16 ∧ n ≤ (at' fs f).size
  | .mov a b => a < 16 ∧ b < 16 ∧ a ≠ b

theorem extract_all (s : ByteArray) : s.extract 0 s.size = s := by
  apply ByteArray.ext
  simp

theorem part_all (f : Nat) (s : ByteArray) (fs : Files) : part f s s.size fs = (Ch.app f s).run fs := by
  unfold part Ch.run
  rw [extract_all]

theorem run_len (c : Ch) (fs : Files) : (c.run fs).length = fs.length := by
  cases c <;> simp [Ch.run]
theorem part_len (f : Nat) (s : ByteArray) (k : Nat) (fs : Files) : (part f s k fs).length = fs.length := by simp [part]

def runs (fs : Files) (l : List Ch) : Files := l.foldl (fun a c => c.run a) fs
theorem runs_nil (fs : Files) : runs fs [] = fs := rfl
theorem runs_cons (fs : Files) (c : Ch) (l : List Ch) : runs fs (c :: l) = runs (c.run fs) l := rfl
theorem runs_snoc (fs : Files) (l : List Ch) (c : Ch) : runs fs (l ++ [c]) = c.run (runs fs l) := by simp [runs]
theorem runs_len (fs : Files) (l : List Ch) : (runs fs l).length = fs.length := by
  induction l generalizing fs with
  | nil => rfl
  | cons c l ih => rw [runs_cons, ih, run_len]

/-- From these files each change can be made, and there is room for all. -/
def Chain (room : Nat) : Files → List Ch → Prop
  | fs, [] => total fs ≤ room
  | fs, c :: l => total fs ≤ room ∧ c.ok fs ∧ Chain room (c.run fs) l

theorem Chain.here {room : Nat} {fs : Files} {l : List Ch} (h : Chain room fs l) : total fs ≤ room := by
  cases l with
  | nil => exact h
  | cons c l => exact h.1
theorem Chain.last {room : Nat} {fs : Files} {l : List Ch} (h : Chain room fs l) : total (runs fs l) ≤ room := by
  induction l generalizing fs with
  | nil => exact h
  | cons c l ih => exact ih h.2.2
theorem Chain.snoc {room : Nat} {fs : Files} {l : List Ch} (h : Chain room fs l) (c : Ch) (hc : c.ok (runs fs l)) (ht : total (c.run (runs fs l)) ≤ room) : Chain room fs (l ++ [c]) := by
  induction l generalizing fs with
  | nil => exact ⟨h, hc, ht⟩
  | cons x l ih => exact ⟨h.1, h.2.1, ih h.2.2 hc ht⟩
theorem Chain.take {room : Nat} {fs : Files} {l : List Ch} (h : Chain room fs l) (k : Nat) : Chain room fs (l.take k) := by
  induction l generalizing fs k with
  | nil => simpa using h
  | cons x l ih =>
    cases k with
    | zero => exact h.1
    | succ k => exact ⟨h.1, h.2.1, ih h.2.2 k⟩
theorem Chain.at {room : Nat} {fs : Files} {l : List Ch} (h : Chain room fs l) (k : Nat) (c : Ch) (hk : l[k]? = some c) : c.ok (runs fs (l.take k)) ∧ total (c.run (runs fs (l.take k))) ≤ room := by
  induction l generalizing fs k with
  | nil => simp at hk
  | cons x l ih =>
    cases k with
    | zero =>
      simp only [List.getElem?_cons_zero, Option.some.injEq] at hk
      subst hk
      exact ⟨h.2.1, h.2.2.here⟩
    | succ k => exact ih h.2.2 k (by simpa using hk)

theorem runs_take_succ (fs : Files) (l : List Ch) (k : Nat) (c : Ch) (hk : l[k]? = some c) : runs fs (l.take (k + 1)) = c.run (runs fs (l.take k)) := by
  rw [List.take_add_one, hk]
  exact runs_snoc _ _ _

/-! Sizes. -/
theorem total_set (fs : Files) (i : Nat) (v : ByteArray) (h : i < fs.length) : total (fs.set i v) + (at' fs i).size = total fs + v.size := by
  induction fs generalizing i with
  | nil => simp at h
  | cons x fs ih =>
    cases i with
    | zero => simp [total, at']; omega
    | succ i =>
      have := ih i (by simpa using h)
      simp only [total, at', List.set_cons_succ, List.map_cons, List.foldr_cons, List.getD_cons_succ] at this ⊢
      omega
theorem at_le (fs : Files) (i : Nat) : (at' fs i).size ≤ total fs := by
  induction fs generalizing i with
  | nil => simp [at', total]
  | cons x fs ih =>
    cases i with
    | zero => simp [total, at']
    | succ i =>
      have := ih i
      simp only [total, at', List.map_cons, List.foldr_cons, List.getD_cons_succ] at this ⊢
      omega
theorem at_set_same (fs : Files) (i : Nat) (v : ByteArray) (h : i < fs.length) : at' (fs.set i v) i = v := by simp [at', List.getD_eq_getElem?_getD, h]
theorem at_set_ne (fs : Files) (i j : Nat) (v : ByteArray) (h : i ≠ j) : at' (fs.set i v) j = at' fs j := by simp [at', List.getD_eq_getElem?_getD, List.getElem?_set_ne h]
theorem at_get (fs : Files) (i : Nat) (h : i < fs.length) : fs[i]? = some (at' fs i) := by simp [at', List.getD_eq_getElem?_getD, h]

theorem total_app (f : Nat) (s : ByteArray) (fs : Files) (h : f < fs.length) : total ((Ch.app f s).run fs) = total fs + s.size := by
  have := total_set fs f (at' fs f ++ s) h
  rw [ByteArray.size_append] at this
  simp only [Ch.run]
  omega
theorem total_part (f : Nat) (s : ByteArray) (k : Nat) (fs : Files) (h : f < fs.length) (hk : k ≤ s.size) : total (part f s k fs) = total fs + k := by
  have := total_set fs f (at' fs f ++ s.extract 0 k) h
  rw [ByteArray.size_append, ByteArray.size_extract] at this
  simp only [part]
  omega
theorem total_cut (f n : Nat) (fs : Files) (h : f < fs.length) : total ((Ch.cut f n).run fs) ≤ total fs := by
  have := total_set fs f ((at' fs f).extract 0 n) h
  rw [ByteArray.size_extract] at this
  simp only [Ch.run]
  omega
theorem total_mov (a b : Nat) (fs : Files) (ha : a < fs.length) (hb : b < fs.length) (hab : a ≠ b) : total ((Ch.mov a b).run fs) ≤ total fs := by
  have h1 := total_set fs b (at' fs a) hb
  have h2 := total_set (fs.set b (at' fs a)) a ByteArray.empty (by simpa using ha)
  rw [at_set_ne _ _ _ _ (fun e => hab e.symm)] at h2
  simp only [Ch.run]
  have : ByteArray.empty.size = 0 := rfl
  omega
theorem total_none : total none' = 0 := by decide

/-! The disk. -/
structure St where
  room : Nat
  now : Files
  sure : Files
  loose : List Ch
  off : Bool
  left : Int

structure Ok (S : St) : Prop where
  room : S.room ≤ 4194304
  sureL : S.sure.length = 16
  now : S.now = runs S.sure S.loose
  chain : Chain S.room S.sure S.loose
  left : -1 ≤ S.left ∧ S.left ≤ 9223372036854775807

theorem Ok.nowL {S : St} (h : Ok S) : S.now.length = 16 := by rw [h.now, runs_len, h.sureL]
theorem Ok.total {S : St} (h : Ok S) : total S.now ≤ S.room := by rw [h.now]; exact h.chain.last

def fresh (room : Nat) : St := ⟨room, none', none', [], false, -1⟩
theorem fresh_ok (room : Nat) (h : room ≤ 4194304) : Ok (fresh room) := by
  refine ⟨h, by simp [fresh, none'], rfl, ?_, by simp [fresh]⟩
  show total none' ≤ room
  rw [total_none]
  omega

def isF (f : Int) : Bool := decide (0 ≤ f) && decide (f < 16)
def argE (l : List Int) : Int := if l.all isF = true then 0 else 2
theorem argE_ok {l : List Int} (h : l.all isF = true) : argE l = 0 := if_pos h
theorem argE_bad {l : List Int} (h : ¬ l.all isF = true) : argE l = 2 := if_neg h
def ready (S : St) (l : List Int) : Int := if S.off = true then 50 else argE l
/-- Behind an operation: the error, and the disk. -/
def op (S : St) : Int × St := if S.left = 0 then (50, { S with off := true }) else if 0 < S.left then (0, { S with left := S.left - 1 }) else (0, S)
/-- The operations that are left behind one. -/
def less (n : Int) : Int := if 0 < n then n - 1 else n
theorem less_le {n : Int} (h : -1 ≤ n ∧ n ≤ 9223372036854775807) : -1 ≤ less n ∧ less n ≤ 9223372036854775807 := by
  unfold less
  split <;> omega
def leftOf (S : St) : Int := (S.room : Int) - (total S.now : Int)
def change (S : St) (c : Ch) : Int × St := if S.left = 0 then (50, { S with off := true }) else (0, { S with now := c.run S.now, loose := S.loose ++ [c], left := less S.left })

def append (S : St) (f : Int) (s : ByteArray) : Int × St :=
  if ready S [f] ≠ 0 then (ready S [f], S) else if leftOf S < (s.size : Int) then (7, S) else change S (.app f.toNat s)
def cut (S : St) (f n : Int) : Int × St :=
  if ready S [f] ≠ 0 then (ready S [f], S) else if n < 0 ∨ ((at' S.now f.toNat).size : Int) < n then (5, S) else change S (.cut f.toNat n.toNat)
def move (S : St) (a b : Int) : Int × St :=
  if ready S [a, b] ≠ 0 then (ready S [a, b], S) else if a = b then (2, S) else change S (.mov a.toNat b.toNat)
def sync (S : St) : Int × St :=
  if S.off = true then (50, S) else if S.left = 0 then (50, { S with off := true }) else (0, { S with sure := S.now, loose := [], left := less S.left })
def read (S : St) (f : Int) : ByteArray × Int := if ready S [f] ≠ 0 then (ByteArray.empty, ready S [f]) else (at' S.now f.toNat, 0)
def power (S : St) (n : Int) : Int × St := if S.off = true then (50, S) else if n < 0 then (2, S) else (0, { S with left := n })
/-- The change behind those that are kept: of an Append the first bytes. -/
def tail (o : Option Ch) (bytes : Int) (fs : Files) : Files := match o with
  | some (.app f s) => part f s (clip bytes s.size) fs
  | _ => fs
/-- What is there behind a crash. -/
def kept (S : St) (changes bytes : Int) : Files := tail S.loose[clip changes S.loose.length]? bytes (runs S.sure (S.loose.take (clip changes S.loose.length)))
def crash (S : St) (changes bytes : Int) : St := ⟨S.room, kept S changes bytes, kept S changes bytes, [], false, -1⟩

theorem isF_iff {f : Int} : isF f = true ↔ 0 ≤ f ∧ f < 16 := by simp [isF]
theorem ready_one {S : St} {f : Int} (h : ready S [f] = 0) : S.off = false ∧ 0 ≤ f ∧ f < 16 := by
  unfold ready argE at h
  split at h
  · simp at h
  · split at h
    · rename_i h1 h2
      simp only [List.all_cons, List.all_nil, Bool.and_true] at h2
      exact ⟨by simpa using h1, isF_iff.1 h2⟩
    · simp at h
theorem ready_two {S : St} {a b : Int} (h : ready S [a, b] = 0) : S.off = false ∧ (0 ≤ a ∧ a < 16) ∧ 0 ≤ b ∧ b < 16 := by
  unfold ready argE at h
  split at h
  · simp at h
  · split at h
    · rename_i h1 h2
      simp only [List.all_cons, List.all_nil, Bool.and_true, Bool.and_eq_true] at h2
      exact ⟨by simpa using h1, isF_iff.1 h2.1, isF_iff.1 h2.2⟩
    · simp at h

theorem change_ok {S : St} (h : Ok S) (c : Ch) (hc : c.ok S.now) (ht : total (c.run S.now) ≤ S.room) : Ok (change S c).2 := by
  unfold change
  split
  · exact ⟨h.room, h.sureL, h.now, h.chain, h.left⟩
  · refine ⟨h.room, h.sureL, ?_, ?_, ?_⟩
    · show c.run S.now = runs S.sure (S.loose ++ [c])
      rw [runs_snoc, ← h.now]
    · exact h.chain.snoc c (by rw [← h.now]; exact hc) (by rw [← h.now]; exact ht)
    · exact less_le h.left

theorem sync_ok {S : St} (h : Ok S) : Ok (sync S).2 := by
  unfold sync
  split
  · exact h
  · split
    · exact ⟨h.room, h.sureL, h.now, h.chain, h.left⟩
    · refine ⟨h.room, h.nowL, rfl, h.total, ?_⟩
      exact less_le h.left

theorem kept_ok {S : St} (h : Ok S) (changes bytes : Int) : (kept S changes bytes).length = 16 ∧ total (kept S changes bytes) ≤ S.room := by
  unfold kept
  have hl : (runs S.sure (S.loose.take (clip changes S.loose.length))).length = 16 := by rw [runs_len, h.sureL]
  have ht := (h.chain.take (clip changes S.loose.length)).last
  cases hk : S.loose[clip changes S.loose.length]? with
  | none => exact ⟨hl, ht⟩
  | some c =>
    cases c with
    | app f s =>
      obtain ⟨h1, h2⟩ := h.chain.at _ _ hk
      have h1 : f < 16 := h1
      rw [total_app _ _ _ (by omega)] at h2
      refine ⟨(part_len _ _ _ _).trans hl, ?_⟩
      show total (part f s (clip bytes s.size) _) ≤ _
      rw [total_part _ _ _ _ (by omega) (clip_le _ _)]
      have := clip_le bytes s.size
      omega
    | cut f n => exact ⟨hl, ht⟩
    | mov a b => exact ⟨hl, ht⟩
theorem crash_ok {S : St} (h : Ok S) (changes bytes : Int) : Ok (crash S changes bytes) := by
  obtain ⟨h1, h2⟩ := kept_ok h changes bytes
  exact ⟨h.room, h1, rfl, h2, by simp [crash]⟩
theorem power_ok {S : St} (h : Ok S) (n : Int) (hn : n ≤ 9223372036854775807) : Ok (power S n).2 := by
  unfold power
  split
  · exact h
  · split
    · exact h
    · exact ⟨h.room, h.sureL, h.now, h.chain, by show -1 ≤ n ∧ n ≤ _; omega⟩

theorem append_ok {S : St} (h : Ok S) (f : Int) (s : ByteArray) : Ok (append S f s).2 := by
  unfold append
  split
  · exact h
  · split
    · exact h
    · rename_i h1 h2
      have h1 := ready_one (by simpa using h1)
      refine change_ok h _ (by show f.toNat < 16; omega) ?_
      rw [total_app _ _ _ (by rw [h.nowL]; omega)]
      unfold leftOf at h2
      omega
theorem cut_ok {S : St} (h : Ok S) (f n : Int) : Ok (cut S f n).2 := by
  unfold cut
  split
  · exact h
  · split
    · exact h
    · rename_i h1 h2
      have h1 := ready_one (by simpa using h1)
      refine change_ok h _ (by show f.toNat < 16 ∧ _; omega) ?_
      have := total_cut f.toNat n.toNat S.now (by rw [h.nowL]; omega)
      have := h.total
      omega
theorem move_ok {S : St} (h : Ok S) (a b : Int) : Ok (move S a b).2 := by
  unfold move
  split
  · exact h
  · split
    · exact h
    · rename_i h1 h2
      have h1 := ready_two (by simpa using h1)
      refine change_ok h _ (by show a.toNat < 16 ∧ b.toNat < 16 ∧ a.toNat ≠ b.toNat; omega) ?_
      have := total_mov a.toNat b.toNat S.now (by rw [h.nowL]; omega) (by rw [h.nowL]; omega) (by omega)
      have := h.total
      omega

end Dk
end Go.Proofs.Ytllecjhfbojgcaa
