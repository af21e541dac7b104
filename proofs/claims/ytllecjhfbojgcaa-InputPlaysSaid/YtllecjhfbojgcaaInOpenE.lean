/-
  The input's Open of any files.
-/
import Derived.Test.YtllecjhfbojgcaaInMap
import Derived.Test.YtllecjhfbojgcaaInAdd
import Derived.Test.YtllecjhfbojgcaaInJoin
import Derived.Test.YtllecjhfbojgcaaLogBytes
import Derived.Test.YtllecjhfbojgcaaLogOpen2
import Derived.Test.YtllecjhfbojgcaaFreeRegion
import Derived.Deep.CutRange
namespace Go.Proofs.Ytllecjhfbojgcaa
open Go.RowKit
set_option maxRecDepth 20000

theorem read_le {D : Dk.St} (h : Dk.Ok D) (f : Int) : (Dk.read D f).1.size ≤ 4194304 := by
  unfold Dk.read
  split
  · exact Nat.zero_le _
  · have h1 := Dk.at_le D.now f.toNat
    have h2 := h.total
    have h3 := h.room
    show (Dk.at' D.now f.toNat).size ≤ _
    omega
namespace Lg
theorem openL_loose (D : Dk.St) (file : Int) : (openL D file).2.1.loose.length ≤ D.loose.length + 1 := by
  have h1 := cut_loose D file (bytesOf (parse (Dk.read D file).1)).length
  have h2 := sync_loose (Dk.cut D file (bytesOf (parse (Dk.read D file).1)).length).2
  unfold openL
  split
  · simp
  · split
    · split
      · exact h1
      · split
        · exact Nat.le_trans h2 h1
        · exact Nat.le_trans h2 h1
    · simp
theorem openL_ok {D : Dk.St} (h : Dk.Ok D) (file : Int) : Dk.Ok (openL D file).2.1 := by
  have h1 := Dk.cut_ok h file (bytesOf (parse (Dk.read D file).1)).length
  have h2 := Dk.sync_ok h1
  unfold openL
  split
  · exact h
  · split
    · split
      · exact h1
      · split
        · exact h2
        · exact h2
    · exact h
theorem parse_le (s : ByteArray) : (bytesOf (parse s)).length ≤ s.size := by
  obtain ⟨-, h1, h2⟩ := allF_is s.size s.data.toList
  rw [len_data] at h2
  unfold parse
  rw [recs_bytes, h1]
  exact h2
theorem parse_text (s : ByteArray) : ∀ r ∈ parse s, r.text.size ≤ 65536 := fun r hr => by
  obtain ⟨h1, -⟩ := allF_is s.size s.data.toList
  obtain ⟨y, hy, rfl⟩ := List.mem_map.1 hr
  obtain ⟨-, -, -, h2⟩ := h1 y hy
  show (⟨y.2.toArray⟩ : ByteArray).size ≤ _
  rw [size_mk]
  exact h2
theorem openL_rs {D : Dk.St} (h : Dk.Ok D) (file : Int) : (bytesOf (openL D file).2.2.rs).length ≤ 4194304 ∧ ∀ r ∈ (openL D file).2.2.rs, r.text.size ≤ 65536 := by
  have hle := Nat.le_trans (parse_le (Dk.read D file).1) (read_le h file)
  have ht := parse_text (Dk.read D file).1
  have h0 : (bytesOf ([] : List Rec)).length ≤ 4194304 ∧ ∀ r ∈ ([] : List Rec), r.text.size ≤ 65536 := ⟨Nat.zero_le _, fun r hr => (by cases hr)⟩
  unfold openL
  split
  · exact h0
  · split
    · split
      · exact h0
      · split
        · exact h0
        · exact ⟨hle, ht⟩
    · exact ⟨hle, ht⟩
end Lg

/-- What the input's Open answers, what it leaves of the disk, and the input. -/
inductive Opened (D : Dk.St) : Int → Dk.St → Option InSt → Prop where
  | bad0 (h : (Lg.openL D 0).1 ≠ 0) : Opened D (Lg.openL D 0).1 (Lg.openL D 0).2.1 none
  | bad1 (h0 : (Lg.openL D 0).1 = 0) (h : (Lg.openL (Lg.openL D 0).2.1 1).1 ≠ 0) : Opened D (Lg.openL (Lg.openL D 0).2.1 1).1 (Lg.openL (Lg.openL D 0).2.1 1).2.1 none
  | no (h0 : (Lg.openL D 0).1 = 0) (h1 : (Lg.openL (Lg.openL D 0).2.1 1).1 = 0) (h : ¬ ∃ rs, IsIn (Lg.openL D 0).2.2.rs (Lg.openL (Lg.openL D 0).2.1 1).2.2.rs rs ∧ rs.length ≤ 500) : Opened D 210 (Lg.openL (Lg.openL D 0).2.1 1).2.1 none
  | good (h0 : (Lg.openL D 0).1 = 0) (h1 : (Lg.openL (Lg.openL D 0).2.1 1).1 = 0) (rs : List InR) (h : IsIn (Lg.openL D 0).2.2.rs (Lg.openL (Lg.openL D 0).2.1 1).2.2.rs rs) (hl : rs.length ≤ 500) :
    Opened D 0 (Lg.openL (Lg.openL D 0).2.1 1).2.1 (some ⟨(Lg.openL (Lg.openL D 0).2.1 1).2.1, (Lg.openL D 0).2.2, (Lg.openL (Lg.openL D 0).2.1 1).2.2, rs⟩)

theorem opened_small {D : Dk.St} (h : Dk.Ok D) : (Lg.openL D 0).2.2.rs.length + (Lg.openL (Lg.openL D 0).2.1 1).2.2.rs.length ≤ 100000000 := by
  have h1 := (Lg.openL_rs h 0).1
  have h2 := (Lg.openL_rs (Lg.openL_ok h 0) 1).1
  have h3 := rs_le (Lg.openL D 0).2.2.rs
  have h4 := rs_le (Lg.openL (Lg.openL D 0).2.1 1).2.2.rs
  omega
theorem Opened.one {D : Dk.St} (hD : Dk.Ok D) {x x' : Int} {D1 D2 : Dk.St} {o o' : Option InSt} (h : Opened D x D1 o) (h' : Opened D x' D2 o') : x = x' ∧ D1 = D2 ∧ o = o' := by
  have hs := opened_small hD
  cases h with
  | bad0 h =>
    cases h' with
    | bad0 _ => exact ⟨rfl, rfl, rfl⟩
    | bad1 h0 _ => exact absurd h0 h
    | no h0 _ _ => exact absurd h0 h
    | good h0 _ _ _ _ => exact absurd h0 h
  | bad1 h0 h =>
    cases h' with
    | bad0 h1 => exact absurd h0 h1
    | bad1 _ _ => exact ⟨rfl, rfl, rfl⟩
    | no _ h1 _ => exact absurd h1 h
    | good _ h1 _ _ _ => exact absurd h1 h
  | no h0 h1 h =>
    cases h' with
    | bad0 h2 => exact absurd h0 h2
    | bad1 _ h2 => exact absurd h1 h2
    | no _ _ _ => exact ⟨rfl, rfl, rfl⟩
    | good _ _ rs h2 h3 => exact absurd ⟨rs, h2, h3⟩ h
  | good h0 h1 rs h hl =>
    cases h' with
    | bad0 h2 => exact absurd h0 h2
    | bad1 _ h2 => exact absurd h1 h2
    | no _ _ h2 => exact absurd ⟨rs, h, hl⟩ h2
    | good _ _ rs' h2 _ =>
      rw [h.one h2 hs]
      exact ⟨rfl, rfl, rfl⟩
theorem Opened.is0 {D D1 : Dk.St} {L0 : Lg.St} {x : Int} (h : Lg.openL D 0 = (x, D1, L0)) (hx : x ≠ 0) : Opened D x D1 none := by
  have := Opened.bad0 (D := D) (by rw [h]; exact hx)
  rwa [h] at this
theorem Opened.is1 {D D1 D2 : Dk.St} {L0 L1 : Lg.St} {x : Int} (h0 : Lg.openL D 0 = (0, D1, L0)) (h : Lg.openL D1 1 = (x, D2, L1)) (hx : x ≠ 0) : Opened D x D2 none := by
  have := Opened.bad1 (D := D) (by rw [h0]) (by rw [h0]; show (Lg.openL D1 1).1 ≠ 0; rw [h]; exact hx)
  rw [h0] at this
  simp only at this
  rwa [h] at this
theorem Opened.isNo {D D1 D2 : Dk.St} {L0 L1 : Lg.St} (h0 : Lg.openL D 0 = (0, D1, L0)) (h1 : Lg.openL D1 1 = (0, D2, L1)) (h : ¬ ∃ rs, IsIn L0.rs L1.rs rs ∧ rs.length ≤ 500) : Opened D 210 D2 none := by
  have := Opened.no (D := D) (by rw [h0]) (by rw [h0]; show (Lg.openL D1 1).1 = 0; rw [h1]) (by rw [h0]; show ¬ ∃ rs, IsIn L0.rs (Lg.openL D1 1).2.2.rs rs ∧ _; rw [h1]; exact h)
  rw [h0] at this
  simp only at this
  rwa [h1] at this
theorem Opened.isGood {D D1 D2 : Dk.St} {L0 L1 : Lg.St} {rs : List InR} (h0 : Lg.openL D 0 = (0, D1, L0)) (h1 : Lg.openL D1 1 = (0, D2, L1)) (h : IsIn L0.rs L1.rs rs) (hl : rs.length ≤ 500) : Opened D 0 D2 (some ⟨D2, L0, L1, rs⟩) := by
  have := Opened.good (D := D) (by rw [h0]) (by rw [h0]; show (Lg.openL D1 1).1 = 0; rw [h1]) rs (by rw [h0]; show IsIn L0.rs (Lg.openL D1 1).2.2.rs rs; rw [h1]; exact h) hl
  rw [h0] at this
  simp only at this
  rwa [h1] at this

/-- What Open says. -/
def InSays (f : Fr) (d : Nat) (D : Dk.St) (e : Ending) (w' : World) : Prop :=
  ∃ x D' o, Opened D x D' o ∧ ((o = none ∧ e = .returned (.tuple #[.pointer none, .int .i64 x]) ∧ LiveF f w' d D') ∨ ∃ S n l0 l1 lv, o = some S ∧ x = 0 ∧ S.D = D' ∧ e = .returned (.tuple #[ptr n 0, .int .i64 0]) ∧ InLive f w' n d l0 l1 lv S)

theorem LiveF.turned {f : Fr} {w w' : World} {d : Nat} {D' : Dk.St} {F : Nat → Prop} (hn : ∀ k, F k → ¬ f.K k) (hs : Since f w) (h : Turned w w' d D' F) : LiveF f w' d D' := by
  obtain ⟨F', ho, hd, hF⟩ := h
  refine ⟨F', hd, fun k hk => ?_, hs.only ho hn⟩
  rcases hF k hk with h | h
  · exact hn k h
  · exact hs.fresh h
theorem InLive.liveF {f : Fr} {w : World} {n d l0 l1 : Nat} {lv : Value} {S : InSt} (h : InLive f w n d l0 l1 lv S) : LiveF f w d S.D := by
  obtain ⟨F, G0, G1, N, h⟩ := h
  exact ⟨F, h.disk, fun k hk => h.new k (.inl hk), h.old⟩
theorem wf_in64 {i : Int} (h : Cl.In64 i) : (Lit.int .i64 i).wf = true := by
  have h1 : IntKind.i64.min = -9223372036854775808 := rfl
  have h2 : IntKind.i64.max = 9223372036854775807 := rfl
  unfold Cl.In64 at h
  simp [Lit.wf, h1, h2]
  omega

/-- What is known of a part's log while the map is filled. -/
structure PartE (w0 : Fr) (n d l0 l1 : Nat) (lv : Value) (S : InSt) (b : Nat) (R0 R1 : List Lg.Rec) (k : Nat) (lp : Nat) (R : List Lg.Rec) (pre : List (Int × InR)) : Prop where
  idx : ∀ w, (Instr.index 94 (.agg #[.pointer (some ⟨l0, 0, none⟩), .pointer (some ⟨l1, 0, none⟩)]) (.int .i64 (k : Int))).run Try.prog w = .ok (.pointer (some ⟨lp, 0, none⟩)) w
  len : ∀ W, InLiveB w0 W n d l0 l1 lv S b → Calls Try.prog 45 #[.pointer (some ⟨lp, 0, none⟩)] W fun e w' => e = .returned (.int .i64 (R.length : Int)) ∧ W = w'
  at' : ∀ W (j : Nat) r, InLiveB w0 W n d l0 l1 lv S b → R[j]? = some r → Calls Try.prog 46 #[.pointer (some ⟨lp, 0, none⟩), .int .i64 (j : Int)] W fun e w' => e = .returned (.tuple #[.int .u8 (r.kind.toNat : Int), .string r.text, .int .i64 0]) ∧ Below W.heap.size W w'
  above : ∀ j A lx q, Fill (k : Int) (R.take j) pre A lx → (q.2.part = (k : Int) ∧ Cl.In64 q.1 ∧ Cl.In64 q.2.key ∧ Cl.In64 q.2.val) → R[j]? = some (recI q) → (q.1 ≤ lx ∨ look (pre ++ A) q.1 ≠ none) → ¬ ∃ rs, IsIn R0 R1 rs ∧ rs.length ≤ 500
  bad : ∀ r ∈ R, ¬ (r.kind = 1 ∧ ∃ a b c, Cl.nums r.text.data.toList = ([a, b, c], 0)) → ¬ ∃ rs, IsIn R0 R1 rs ∧ rs.length ≤ 500
  text : ∀ r ∈ R, r.text.size ≤ 65536
  small : R.length ≤ 5000000 ∧ pre.length ≤ 5000000

/-- The map when k parts were gone through. -/
def Filled (R0 R1 : List Lg.Rec) (k : Nat) (M : List (Int × InR)) : Prop :=
  (k = 0 ∧ M = []) ∨ (k = 1 ∧ ∃ l, Fill 0 R0 [] M l) ∨ (k = 2 ∧ ∃ A B la lb, M = A ++ B ∧ Fill 0 R0 [] A la ∧ Fill 1 R1 A B lb)

theorem Fill.len {p : Int} {R : List Lg.Rec} {pre A : List (Int × InR)} {l : Int} (h : Fill p R pre A l) : A.length = R.length := by
  rw [h.rows]
  simp [rowsR]

theorem parte_of {w0 : Fr} {n d l0 l1 : Nat} {lv : Value} {D : Dk.St} {L0 L1 : Lg.St} {b : Nat} {rs' : List InR} (h0 : L0.rs.length ≤ 5000000 ∧ ∀ r ∈ L0.rs, r.text.size ≤ 65536) (h1 : L1.rs.length ≤ 5000000 ∧ ∀ r ∈ L1.rs, r.text.size ≤ 65536) (k : Nat) (hk : k < 2) (M : List (Int × InR)) (hM : Filled L0.rs L1.rs k M) :
    ∃ lp R, PartE w0 n d l0 l1 lv ⟨D, L0, L1, rs'⟩ b L0.rs L1.rs k lp R M ∧ ∀ A l, Fill (k : Int) R M A l → Filled L0.rs L1.rs (k + 1) (M ++ A) := by
  have hs : L0.rs.length + L1.rs.length ≤ 100000000 := by omega
  have hat : ∀ (L : Lg.St) (j : Nat) (r : Lg.Rec), L.rs[j]? = some r → Lg.at' L (j : Int) = ((r.kind.toNat : Int), r.text, 0) := fun L j r h => by
    unfold Lg.at'
    rw [if_neg (by omega), Int.toNat_natCast, h]
  rcases (show k = 0 ∨ k = 1 by omega) with rfl | rfl
  · obtain rfl : M = [] := by
      rcases hM with ⟨-, h⟩ | ⟨h, -⟩ | ⟨h, -⟩
      · exact h
      · omega
      · omega
    refine ⟨l0, L0.rs, ⟨fun _ => by kernel_rfl, fun W h => ?_, fun W j r h hr => ?_, fun j A lx q hf hq hr hx => ?_, fun r hr hb => ?_, h0.2, h0.1, Nat.zero_le _⟩, fun A l hf => .inr (.inl ⟨rfl, l, by rw [List.nil_append]; exact hf⟩)⟩
    · obtain ⟨F, G0, G1, N, h, -⟩ := h
      exact loglen_any W l0 d 0 _ G0 h.log0
    · obtain ⟨F, G0, G1, N, h, -⟩ := h
      have := logat_any W l0 d 0 _ G0 h.log0 (j : Int)
      rw [hat _ j r hr] at this
      exact this
    · rintro ⟨rs, hi, -⟩
      obtain ⟨a1, a2⟩ := hi.above0 hs hf hq hr
      rcases hx with hx | hx
      · omega
      · exact hx a2
    · rintro ⟨rs, hi, -⟩
      exact hb (hi.good hs (.inl hr))
  · obtain ⟨la, hA⟩ : ∃ l, Fill 0 L0.rs [] M l := by
      rcases hM with ⟨h, -⟩ | ⟨-, h⟩ | ⟨h, -⟩
      · omega
      · exact h
      · omega
    refine ⟨l1, L1.rs, ⟨fun _ => by kernel_rfl, fun W h => ?_, fun W j r h hr => ?_, fun j A lx q hf hq hr hx => ?_, fun r hr hb => ?_, h1.2, h1.1, by rw [hA.len]; exact h0.1⟩, fun A l hf => .inr (.inr ⟨rfl, M, A, la, l, rfl, hA, hf⟩)⟩
    · obtain ⟨F, G0, G1, N, h, -⟩ := h
      exact loglen_any W l1 d 1 _ G1 h.log1
    · obtain ⟨F, G0, G1, N, h, -⟩ := h
      have := logat_any W l1 d 1 _ G1 h.log1 (j : Int)
      rw [hat _ j r hr] at this
      exact this
    · rintro ⟨rs, hi, -⟩
      obtain ⟨a1, a2⟩ := hi.above1 hs hA hf hq hr
      rcases hx with hx | hx
      · omega
      · exact hx a2
    · rintro ⟨rs, hi, -⟩
      exact hb (hi.good hs (.inr hr))

set_option maxHeartbeats 16000000 in
set_option maxRecDepth 100000 in
theorem inopen_all (w0 : Fr) (w : World) (d : Nat) (D : Dk.St) (hL : LiveF w0 w d D) (hm : D.loose.length ≤ 900000000) :
    Calls Try.prog 13 #[ptr d 0] w (InSays w0 d D) := by
  obtain ⟨F, hd, hFn, hold⟩ := hL
  have hmm := @run_makeMap Try.prog
  obtain ⟨W, hW⟩ : ∃ W, (w.alloc (.cells #[.pointer none, .pointer none, .slice none 0 0] 96)).alloc (.map #[] 0) = W := ⟨_, rfl⟩
  have hbW : Below w.heap.size w W := by rw [← hW]; exact bel_trans (bel_alloc _ _) (bel_alloc _ _)
  have hWs : W.heap.size = w.heap.size + 2 := by rw [← hW]; simp
  have hn : W.heap[w.heap.size]? = some (.cells #[.pointer none, .pointer none, .slice none 0 0] 96) := by
    rw [← hW]; exact (Below.heap_alloc _ _ _ (by simp)).trans (heap_alloc_new w _)
  have hmp : MapAt W (w.heap.size + 1) [] := by
    have := MapAt.made (w.alloc (.cells #[.pointer none, .pointer none, .slice none 0 0] 96))
    rw [hW, World.size_alloc] at this
    exact this
  have HDW := Lib.hid (hd.below hbW)
  have HFN := Lib.hid hFn
  have HDF := Lib.hid hd.lt
  have HOLD := Lib.hid (hold.below hbW)
  have hfr : ∀ k, w.heap.size ≤ k → ¬ w0.K k := fun k hk => hold.fresh hk
  have HW := Lib.hid hW
  have HN := Lib.hid hn
  have HMP := Lib.hid hmp
  obtain ⟨x0, D1, L0, ho0⟩ : ∃ x0 D1 L0, Lg.openL D 0 = (x0, D1, L0) := ⟨_, _, _, rfl⟩
  obtain ⟨x1, D2, L1, ho1⟩ : ∃ x1 D2 L1, Lg.openL D1 1 = (x1, D2, L1) := ⟨_, _, _, rfl⟩
  have hok := hd.ok
  have hok1 := Lg.openL_ok hok 0
  have hlo1 := Lg.openL_loose D 0
  have hr0 := Lg.openL_rs hok 0
  rw [ho0] at hok1 hlo1 hr0
  have hr1 := Lg.openL_rs hok1 1
  simp only at hok1 hlo1 hr0 hr1
  rw [ho1] at hr1
  simp only at hr1
  have hc0 := logopen_all W d D F (hd.below hbW) 0 (Nat.le_trans (read_le hok 0) (by decide)) (by omega)
  have hc1 := fun (X : World) (F1 : Nat → Prop) (h : DiskAt X d D1 F1) => logopen_all X d D1 F1 h 1 (Nat.le_trans (read_le hok1 1) (by decide)) (by omega)
  unfold OpenL at hc0 hc1
  rw [ho0] at hc0
  rw [ho1] at hc1
  simp only at hc0 hc1
  have HC0 := Lib.hid hc0
  have HC1 := Lib.hid hc1
  have HO0 := Lib.hid ho0
  have HO1 := Lib.hid ho1
  have HQ0 := Lib.hid (show L0.rs.length ≤ 5000000 ∧ ∀ r ∈ L0.rs, r.text.size ≤ 65536 from ⟨by have := rs_le L0.rs; omega, hr0.2⟩)
  have HQ1 := Lib.hid (show L1.rs.length ≤ 5000000 ∧ ∀ r ∈ L1.rs, r.text.size ≤ 65536 from ⟨by have := rs_le L1.rs; omega, hr1.2⟩)
  obtain ⟨n, hnn⟩ : ∃ n, w.heap.size = n := ⟨_, rfl⟩
  rw [hnn] at HN HMP hWs HDF hfr
  have HFR := Lib.hid hfr
  have HWS := Lib.hid hWs
  have HNN := Lib.hid hnn
  clear hd hW hbW hWs hn hmp hFn hold hfr ho0 ho1 hok hok1 hlo1 hr0 hr1 hc0 hc1 hm
  unfold ptr
  go_enter Try.func13, Try.ntmps13
  go_wp2_with fail
  refine wp_loop_rounds 3 ?_
  rw [rounds_succ]
  go_wp2_with fail
  first
    | rw [HW.out]
    | skip
  refine HC0.out.mono ?_
  rintro e w1 (⟨hx0, l0, rfl, hge0, ht0⟩ | ⟨hx0, rfl, ht0⟩)
  rotate_left
  · have hz : (x0 != 0) = true := by simpa using hx0
    have HX0 := Lib.hid hx0
    have HT0 := Lib.hid (LiveF.turned HFN.out HOLD.out ht0)
    clear ht0 hx0
    go_wp2_with fail
    go_ret2
    exact ⟨_, _, _, Opened.is0 HO0.out HX0.out, .inl ⟨rfl, rfl, HT0.out⟩⟩
  subst hx0
  have hFn : ¬ F n := fun h => by have := HDF.out n h; omega
  have hFb : ¬ F (n + 1) := fun h => by have := HDF.out (n + 1) h; omega
  obtain ⟨F1, G0, o1, d1, g0, fg1, f1, gn1⟩ := ht0
  have hn1 : w1.heap[n]? = some (.cells #[.pointer none, .pointer none, .slice none 0 0] 96) := (o1.block n (by have := HWS.out; omega) (fun h => h.elim hFn id)).trans HN.out
  have hb1 : w1.heap[n + 1]? = W.heap[n + 1]? := o1.block (n + 1) (by have := HWS.out; omega) (fun h => h.elim hFb id)
  have HO1' := Lib.hid o1
  have HD1 := Lib.hid d1
  have HG0 := Lib.hid g0
  have HFG1 := Lib.hid fg1
  have HF1 := Lib.hid f1
  have HGN1 := Lib.hid gn1
  have HN1 := Lib.hid hn1
  have HMP1 := Lib.hid (HMP.out.kept hb1)
  have hlt1 : n < w1.heap.size := (Array.getElem?_eq_some_iff.1 hn1).1
  have hlb1 : n + 1 < w1.heap.size := HMP1.out.lt
  have c0 := cells_at hn1 0 _ rfl
  have fz0 := cells_free hn1 0
  simp only [List.getElem_toArray, List.getElem_cons_zero] at c0
  unfold ptr
  clear hn1 hb1 o1 d1 g0 fg1 f1 gn1
  go_wp2_with fail
  obtain ⟨X, hX⟩ : ∃ X, w1.setCell ⟨n, 0, none⟩ (.pointer (some ⟨l0, 0, none⟩)) = X := ⟨_, rfl⟩
  have hXn : X.heap[n]? = some (.cells #[.pointer (some ⟨l0, 0, none⟩), .pointer none, .slice none 0 0] 96) := by rw [← hX, cells_set HN1.out]; rfl
  have hoX : Only (fun k => k = n) w1 X := by rw [← hX]; exact Only.setCell (fun k => k = n) w1 ⟨n, 0, none⟩ _ rfl
  have HXM := Lib.hid (HMP1.out.kept (hoX.block (n + 1) hlb1 (by show ¬ n + 1 = n; omega)))
  have HX := Lib.hid hX
  have HXN := Lib.hid hXn
  have HOX := Lib.hid hoX
  have HDX := Lib.hid (HD1.out.only hoX (fun k hk e => by rw [show k = n from e] at hk; rcases HF1.out n hk with h | h; exact hFn h; have := HWS.out; omega))
  clear hX hXn hoX c0 fz0
  rw [HX.out, rounds_succ]
  go_wp2_with fail
  refine (HC1.out X F1 HDX.out).mono ?_
  rintro e w2 (⟨hx1, l1, rfl, hge1, ht1⟩ | ⟨hx1, rfl, ht1⟩)
  rotate_left
  · have hz : (x1 != 0) = true := by simpa using hx1
    have HX1 := Lib.hid hx1
    have HT0 := Lib.hid (LiveF.turned (w := X) (f := w0) (fun k hk => by
      rcases HF1.out k hk with h | h
      · exact HFN.out k h
      · exact HOLD.out.fresh h) ((HOLD.out.only HO1'.out (fun i hi => by
      rcases hi with h | h
      · exact HFN.out i h
      · exact h.elim)).only HOX.out (fun i hi => by rw [show i = n from hi]; exact HFR.out n (Nat.le_refl _))) ht1)
    clear ht1 hx1
    go_wp2_with fail
    go_ret2
    exact ⟨_, _, _, Opened.is1 HO0.out HO1.out HX1.out, .inl ⟨rfl, rfl, HT0.out⟩⟩
  subst hx1
  obtain ⟨F2, G1, o2, -, -, -, f2, -⟩ := id ht1
  have hF1n : ¬ F1 n := fun h => by rcases HF1.out n h with h | h; exact hFn h; have := HWS.out; omega
  have hF1b : ¬ F1 (n + 1) := fun h => by rcases HF1.out (n + 1) h with h | h; exact hFb h; have := HWS.out; omega
  have hnX := (Array.getElem?_eq_some_iff.1 HXN.out).1
  have hn2 : w2.heap[n]? = some (.cells #[.pointer (some ⟨l0, 0, none⟩), .pointer none, .slice none 0 0] 96) := (o2.block n hnX (fun h => h.elim hF1n id)).trans HXN.out
  have hb2 : w2.heap[n + 1]? = X.heap[n + 1]? := o2.block (n + 1) HXM.out.lt (fun h => h.elim hF1b id)
  have HT1 := Lib.hid ht1
  have HN2 := Lib.hid hn2
  have HMP2 := Lib.hid (HXM.out.kept hb2)
  have hlt2 : n < w2.heap.size := (Array.getElem?_eq_some_iff.1 hn2).1
  have c1 := cells_at hn2 1 _ rfl
  have fz1 := cells_free hn2 1
  simp only [List.getElem_toArray, List.getElem_cons_zero, List.getElem_cons_succ] at c1
  unfold ptr
  clear ht1 hn2 hb2 o2 f2
  go_wp2_with fail
  obtain ⟨Y, hY⟩ : ∃ Y, w2.setCell ⟨n, 1, none⟩ (.pointer (some ⟨l1, 0, none⟩)) = Y := ⟨_, rfl⟩
  have hYn : Y.heap[n]? = some (.cells #[.pointer (some ⟨l0, 0, none⟩), .pointer (some ⟨l1, 0, none⟩), .slice none 0 0] 96) := by rw [← hY, cells_set HN2.out]; rfl
  have hoY : Only (fun k => k = n) w2 Y := by rw [← hY]; exact Only.setCell (fun k => k = n) w2 ⟨n, 1, none⟩ _ rfl
  have HYM := Lib.hid (HMP2.out.kept (hoY.block (n + 1) HMP2.out.lt (by show ¬ n + 1 = n; omega)))
  have hlb := InLiveB.ofOpen (w0 := w0) (n := n) (b := n + 1) HOLD.out HFN.out hFn hFb (HFR.out n (Nat.le_refl _)) (HFR.out (n + 1) (by omega)) (by omega) (by have := HWS.out; omega) (by have := HWS.out; omega) HO1'.out HG0.out HFG1.out HF1.out HGN1.out HOX.out HT1.out hoY hYn
  have HLB := Lib.hid hlb
  have HY := Lib.hid hY
  have d0 := cells_at hYn 0 _ rfl
  have d1 := cells_at hYn 1 _ rfl
  simp only [List.getElem_toArray, List.getElem_cons_zero, List.getElem_cons_succ] at d0 d1
  clear hY hYn hoY c1 fz1 hlb HT1 HN2 HMP2 HDX HOX HXN HX HXM HD1 HG0 HFG1 HF1 HGN1 HO1' HN1 HMP1 hF1n hF1b hnX hlt1 hlb1 hFn hFb hlt2
  rw [HY.out, rounds_succ]
  go_wp2_with fail
  have HY1 := Lib.hid (hmm)
  go_loopw [50] (fun i wr => ∃ (k : Nat) (M : List (Int × InR)), k ≤ 2 ∧ i = .int .i64 (k : Int) ∧ Hid (InLiveB w0 wr n d l0 l1 (.slice none 0 0) ⟨D2, L0, L1, []⟩ (n + 1)) ∧ Hid (MapAt wr (n + 1) M) ∧ Hid (Filled L0.rs L1.rs k M)) (fun i _ => 2 - (intOf i).toNat)
  case atStart => exact ⟨0, [], by omega, rfl, HLB, HYM, Lib.hid (.inl ⟨rfl, rfl⟩)⟩
  case round =>
    obtain ⟨k, M, hk, rfl, HS, HM, HF⟩ := hrel
    by_cases hk2 : k < 2
    · obtain ⟨lp, R, hpp, hfin⟩ := parte_of (w0 := w0) (n := n) (d := d) (l0 := l0) (l1 := l1) (lv := .slice none 0 0) (D := D2) (b := n + 1) (rs' := []) HQ0.out HQ1.out k hk2 M HF.out
      have HPP := Lib.hid hpp
      have HFIN := Lib.hid hfin
      have hkk : (k : Int) < 2 := by omega
      have hidx := hpp.idx
      have hsm := hpp.small
      have hPl : R.length ≤ 5000000 := by omega
      have hprel : M.length ≤ 5000000 := by omega
      clear hpp hsm hfin
      go_wp2_with fail
      refine (HPP.out.len _ HS.out).mono ?_
      rintro e w3 ⟨rfl, rfl⟩
      clear hidx
      go_wp2_with fail
      go_loopw [11, 56] (fun last i wr => ∃ (j : Nat) (lx : Int) (A : List (Int × InR)), j ≤ R.length ∧ i = .int .i64 (j : Int) ∧ last = .int .i64 lx ∧ Hid (Fill (k : Int) (R.take j) M A lx) ∧ Hid (InLiveB w0 wr n d l0 l1 (.slice none 0 0) ⟨D2, L0, L1, []⟩ (n + 1)) ∧ Hid (MapAt wr (n + 1) (M ++ A))) (fun _ i _ => R.length - (intOf i).toNat)
      case atStart => exact ⟨0, -1, [], Nat.zero_le _, rfl, rfl, Lib.hid (by rw [List.take_zero]; exact Fill.start _ _), HS, by rw [List.append_nil]; exact HM⟩
      case round =>
        obtain ⟨j, lx, A, hj, rfl, rfl, HFL, HS3, HM3⟩ := hrel
        by_cases hjP : j < R.length
        · obtain ⟨r, hr⟩ : ∃ r, R[j]? = some r := ⟨R[j], by simp [hjP]⟩
          have HAT := Lib.hid (HPP.out.at' _ j r HS3.out hr)
          have htx := HPP.out.text r (List.mem_of_getElem? hr)
          have HBAD := Lib.hid (HPP.out.bad r (List.mem_of_getElem? hr))
          have HABV := Lib.hid (fun q => HPP.out.above j A lx q HFL.out)
          have HRJ := Lib.hid hr
          have hjk : (j : Int) < (R.length : Int) := by omega
          have HJ := Lib.hid hjP
          have HTK := Lib.hid (show R.take (j + 1) = R.take j ++ [r] by rw [List.take_add_one, hr]; rfl)
          obtain ⟨ns, x, hnn⟩ : ∃ ns x, Cl.nums r.text.data.toList = (ns, x) := ⟨_, _, rfl⟩
          obtain ⟨T, hT⟩ : ∃ T, r.text = T := ⟨_, rfl⟩
          obtain ⟨kd, hkd⟩ : ∃ kd : Int, (r.kind.toNat : Int) = kd := ⟨_, rfl⟩
          have hat2 := HAT.out
          rw [hT] at hnn htx hat2
          rw [hkd] at hat2
          have HAT2 := Lib.hid hat2
          have HNS := Lib.hid (fun W => numbers_says T ns x W (Nat.le_trans htx (by decide)) hnn)
          have HNN := Lib.hid hnn
          have HT := Lib.hid hT
          have HKD := Lib.hid hkd
          have HFAIL := Lib.hid (fun (W' : World) (hb : Below wr.heap.size wr W') (hno : ¬ ∃ rs, IsIn L0.rs L1.rs rs ∧ rs.length ≤ 500) => (show InSays w0 d D (.returned (.tuple #[.pointer none, .int .i64 210])) W' from ⟨_, _, _, Opened.isNo HO0.out HO1.out hno, .inl ⟨rfl, rfl, (HS3.out.below hb).live.liveF⟩⟩))
          clear hr htx hnn hT HAT hat2 hkd
          go_wp2_with fail
          refine HAT2.out.mono ?_
          rintro e w5 ⟨rfl, hb5⟩
          have HB5 := Lib.hid hb5
          clear hb5
          go_wp2_with fail
          refine (HNS.out w5).mono ?_
          rintro e w6 ⟨v, rfl, hrv, hb6⟩
          have hb56 := bel_trans HB5.out hb6
          have HB56 := Lib.hid hb56
          obtain ⟨va, vc, rfl⟩ := hrv.shape
          have hvl := hrv.lenLe
          unfold maxLen at hvl
          have HRV := Lib.hid hrv
          clear hrv hb6 hb56
          by_cases hx : x = 0
          rotate_left
          · have hz : (x != 0) = true := by simpa using hx
            have HX := Lib.hid hx
            clear hx
            go_wp2_with fail
            go_ret2
            refine HFAIL.out _ (by first | exact HB56.out | exact HB56.out.drew | exact bel_trans HB56.out (bel_drewN _ _)) (HBAD.out (fun hh => ?_))
            obtain ⟨-, a, b, c, hh⟩ := hh
            rw [HT.out, HNN.out] at hh
            exact HX.out (congrArg Prod.snd hh)
          subst hx
          by_cases hk1 : kd = 1
          rotate_left
          · have hz : (kd != 1) = true := by simpa using hk1
            have HK1 := Lib.hid hk1
            clear hk1
            go_wp2_with fail
            go_ret2
            refine HFAIL.out _ (by first | exact HB56.out | exact HB56.out.drew | exact bel_trans HB56.out (bel_drewN _ _)) (HBAD.out (fun hh => ?_))
            refine HK1.out ?_
            rw [← HKD.out, hh.1]
            rfl
          subst hk1
          by_cases hn3 : ns.length = 3
          rotate_left
          · have hz : ((ns.length : Int) != 3) = true := by simp; omega
            have hz2 : (ns.length == 3) = false := by simpa using hn3
            have HN3 := Lib.hid hn3
            clear hn3
            go_wp2_with fail
            go_ret2
            refine HFAIL.out _ (by first | exact HB56.out | exact HB56.out.drew | exact bel_trans HB56.out (bel_drewN _ _)) (HBAD.out (fun hh => ?_))
            obtain ⟨-, a, b, c, hh⟩ := hh
            rw [HT.out, HNN.out] at hh
            have h9 : ns = [a, b, c] := congrArg Prod.fst hh
            refine HN3.out ?_
            rw [h9]
            rfl
          obtain ⟨a, b, c, rfl⟩ : ∃ a b c, ns = [a, b, c] := by
            match ns, hn3 with
            | [a, b, c], _ => exact ⟨a, b, c, rfl⟩
          clear hn3 hvl
          have hq := rec_of (k : Int) r a b c (by
            have h1 := HKD.out
            have h2 : r.kind.toNat = 1 := by omega
            exact UInt8.toNat_inj.1 h2) (by rw [HT.out]; exact HNN.out)
          obtain ⟨hq1, hq2, hq3, hq4⟩ := hq
          have HREC := Lib.hid hq1
          have HQK := Lib.hid (show ((a, (⟨(k : Int), b, c⟩ : InR)) : Int × InR).2.part = (k : Int) ∧ Cl.In64 a ∧ Cl.In64 b ∧ Cl.In64 c from ⟨rfl, hq2, hq3, hq4⟩)
          have HQR := Lib.hid (show R[j]? = some (recI (a, ⟨(k : Int), b, c⟩)) by rw [← hq1]; exact HRJ.out)
          have hS6 := HS3.out.below HB56.out
          have HS6 := Lib.hid hS6
          have HM6 := Lib.hid (HM3.out.kept (HB56.out.block _ HM3.out.lt))
          obtain ⟨vb, vo, vc2, hvv, -, -, hvb, hvc⟩ := HRV.out.some (by simp)
          simp only [Value.slice.injEq] at hvv
          obtain ⟨rfl, -, rfl⟩ := hvv
          have x0 := hvc 0 _ rfl
          have x1 := hvc 1 _ rfl
          have x2 := hvc 2 _ rfl
          rw [Nat.add_zero] at x0
          clear hq1 hq2 hq3 hq4 hvc hS6
          by_cases hal : a ≤ lx
          · have dl : decide (a ≤ lx) = true := by simpa using hal
            have HAL := Lib.hid hal
            clear hal
            go_wp2_with fail
            go_ret2
            exact HFAIL.out _ (by first | exact HB56.out | exact HB56.out.drew | exact bel_trans HB56.out (bel_drewN _ _)) (HABV.out (a, ⟨(k : Int), b, c⟩) ⟨rfl, HQK.out.2⟩ HQR.out (.inl HAL.out))
          have dl : decide (a ≤ lx) = false := by simpa using hal
          have HAL := Lib.hid (show lx < a by omega)
          clear hal
          cases hlook : look (M ++ A) a with
          | some y =>
            have hlk := HM6.out.look_some (i := a) (wf_in64 HQK.out.2.1) hlook
            unfold InR.val' at hlk
            have HLK := Lib.hid hlook
            clear hlook
            go_wp2_with fail
            go_ret2
            exact HFAIL.out _ (by first | exact HB56.out | exact HB56.out.drew | exact bel_trans HB56.out (bel_drewN _ _) | exact bel_trans HB56.out (bel_alloc _ _) | exact (bel_trans HB56.out (bel_alloc _ _)).drew) (HABV.out (a, ⟨(k : Int), b, c⟩) ⟨rfl, HQK.out.2⟩ HQR.out (.inr (by rw [HLK.out]; simp)))
          | none =>
          have hlk := HM6.out.look_none (i := a) (wf_in64 HQK.out.2.1) hlook
          have HLK := Lib.hid hlook
          have HNF := Lib.hid (HFL.out.next (a, ⟨(k : Int), b, c⟩) ⟨rfl, HQK.out.2⟩ HAL.out hlook)
          clear hlook
          go_wp2_with fail
          have HROW := Lib.hid (fun (W' : World) (hb : Below w6.heap.size w6 W') => And.intro ((World.cell?_of_block (a := ⟨vb, vo, none⟩) (hb.block vb hvb)).trans x0) (And.intro ((World.cell?_of_block (a := ⟨vb, vo + 1, none⟩) (hb.block vb hvb)).trans x1) ((World.cell?_of_block (a := ⟨vb, vo + 2, none⟩) (hb.block vb hvb)).trans x2)))
          have hbU := bel_trans (bel_alloc w6 (.cells #[.int .i64 0, .int .i64 0, .int .i64 0] 32)) (bel_drew _)
          obtain ⟨U, hU⟩ : ∃ U, w6.alloc (.cells #[.int .i64 0, .int .i64 0, .int .i64 0] 32) = U := ⟨_, rfl⟩
          rw [hU] at hbU ⊢
          have HSU := Lib.hid (HS6.out.below hbU)
          have hMU := HM6.out.kept (hbU.block _ HM6.out.lt)
          have hAl : A.length ≤ 5000000 := by
            rw [HFL.out.len, List.length_take]
            omega
          have hlU : (M ++ A).length < 1000000000 := by
            rw [List.length_append]
            omega
          obtain ⟨V, hst, hMV, hoV⟩ := hMU.store hlU (i := a) (wf_in64 HQK.out.2.1) HLK.out ⟨(k : Int), b, c⟩
          unfold InR.val' at hst
          have HMV := Lib.hid hMV
          have HOV := Lib.hid hoV
          have HBU := Lib.hid hbU
          clear hlk dl x0 x1 x2 hMU hMV hoV hlU hbU hAl
          refine wp_region_free [0, 1, 2, 3, 4, 5, 6, 7, 8, 9] 10 (fun W' => Below w6.heap.size w6 W') (by kernel_rfl) (by kernel_rfl) ?_
          change wpYields _ _ _ _ [_, _, _, _, _, _, _, _, _, _] _
          iterate 10 (refine yields_step (fun K hK => ?_); apply Exists.intro; apply And.intro; (apply yields_at rfl; rintro W' hb; obtain ⟨z0, z1, z2⟩ := HROW.out W' hb; go_simp; first | done | rfl); go_simp; refine hK _ ?_; clear hK K)
          refine yields_nil ?_
          refine anyP_leaf HBU.out (by kernel_rfl) ?_
          simp only [List.drop_succ_cons, List.drop_zero]
          clear hU
          go_wp2_with fail
          go_roundw
          case rel => exact ⟨j + 1, a, A ++ [(a, ⟨(k : Int), b, c⟩)], HJ.out, by go_num, rfl, Lib.hid (by rw [HTK.out, HREC.out]; exact HNF.out), Lib.hid (HSU.out.map HOV.out), Lib.hid (by rw [← List.append_assoc]; exact HMV.out)⟩
          case measure => have := HJ.out; simp [intOf]; omega
        · obtain rfl : j = R.length := by omega
          have hjk : ¬ (R.length : Int) < (R.length : Int) := by omega
          have HFE := Lib.hid (HFIN.out A lx (by have := HFL.out; rwa [List.take_length] at this))
          go_wp2_with fail
          go_roundw
          case rel => exact ⟨k + 1, M ++ A, by omega, by go_num, HS3, HM3, HFE⟩
          case measure => simp [intOf]; omega
    · obtain rfl : k = 2 := by omega
      have hnk : ¬ ((2 : Nat) : Int) < 2 := by omega
      obtain ⟨A, B, la, lb, hAB, hfa, hfb⟩ : ∃ A B la lb, M = A ++ B ∧ Fill 0 L0.rs [] A la ∧ Fill 1 L1.rs A B lb := by
        rcases HF.out with ⟨h, -⟩ | ⟨h, -⟩ | ⟨-, h⟩
        · omega
        · omega
        · exact h
      have hsm : L0.rs.length + L1.rs.length ≤ 100000000 := by
        have h1 := HQ0.out.1
        have h2 := HQ1.out.1
        omega
      obtain ⟨Q, hQ⟩ : ∃ Q, M.length = Q := ⟨_, rfl⟩
      have HALL := Lib.hid (fun (rs : List InR) (h : IsIn L0.rs L1.rs rs) => (show rs.length = Q ∧ ∀ (i : Nat) x, rs[i]? = some x → look M (i : Int) = some x by
        obtain ⟨h1, h2⟩ := h.all hsm hfa hfb
        rw [← hAB] at h2
        exact ⟨by rw [h1, ← hQ, hAB, List.length_append], h2⟩))
      have HIS := Lib.hid (fun (rs : List InR) (h1 : rs.length = Q) (h2 : ∀ (i : Nat) x, rs[i]? = some x → look M (i : Int) = some x) => fill_in hfa hfb (by rw [h1, ← hQ, hAB, List.length_append]) (by rw [← hAB]; exact h2))
      have HQl := Lib.hid (show Q ≤ 100000000 by rw [← hQ, hAB, List.length_append, hfa.len, hfb.len]; exact hsm)
      have hml := fun ty => HM.out.len ty
      rw [hQ] at hml
      clear hAB hfa hfb hsm hQ HF
      by_cases h500 : 500 < Q
      · have hd5 : decide ((500 : Int) < (Q : Int)) = true := by simp; omega
        have H5 := Lib.hid h500
        have HFAIL := Lib.hid (fun (W' : World) (hb : Below wr.heap.size wr W') (hno : ¬ ∃ rs, IsIn L0.rs L1.rs rs ∧ rs.length ≤ 500) => (show InSays w0 d D (.returned (.tuple #[.pointer none, .int .i64 210])) W' from ⟨_, _, _, Opened.isNo HO0.out HO1.out hno, .inl ⟨rfl, rfl, (HS.out.below hb).live.liveF⟩⟩))
        clear h500
        go_wp2_with fail
        go_ret2
        refine HFAIL.out _ (by first | exact Below.refl _ _ | exact bel_drew _ | exact bel_drewN _ _) ?_
        rintro ⟨rs, hi, hl⟩
        have h1 := (HALL.out rs hi).1
        have h2 := H5.out
        omega
      have hd5 : decide ((500 : Int) < (Q : Int)) = false := by simp; omega
      have hlen : Q ≤ 500 := by omega
      clear h500
      go_upto_region 32 with fail
      have HS0 := HS
      clear hml hd5 HS
      go_loopw [118] (fun i wr => ∃ (j : Nat) (lv : Value) (rs : List InR), j ≤ Q ∧ i = .int .i64 (j : Int) ∧ rs.length = j ∧ Hid (∀ (i : Nat) x, rs[i]? = some x → look M (i : Int) = some x) ∧ Hid (InLiveB w0 wr n d l0 l1 lv ⟨D2, L0, L1, rs⟩ (n + 1)) ∧ Hid (MapAt wr (n + 1) M)) (fun i _ => Q - (intOf i).toNat)
      case atStart => exact ⟨0, _, [], Nat.zero_le _, rfl, rfl, Lib.hid (fun i x h => by simp at h), HS0, HM⟩
      case round =>
        obtain ⟨j, lv, rs, hj, rfl, hjl, HLS, HS3, HM3⟩ := hrel
        obtain ⟨hcn, hrow, hne⟩ := HS3.out.live.cells
        have hwj : (Lit.int .i64 (j : Int)).wf = true := wf_in64 (by unfold Cl.In64; omega)
        by_cases hjQ : j < Q
        · cases hlook : look M (j : Int) with
          | none =>
            have hlk := HM3.out.look_none hwj hlook
            have hjk : (j : Int) < (Q : Int) := by omega
            have HLK := Lib.hid hlook
            have HFAIL := Lib.hid (fun (W' : World) (hb : Below wr.heap.size wr W') (hno : ¬ ∃ rs, IsIn L0.rs L1.rs rs ∧ rs.length ≤ 500) => (show InSays w0 d D (.returned (.tuple #[.pointer none, .int .i64 210])) W' from ⟨_, _, _, Opened.isNo HO0.out HO1.out hno, .inl ⟨rfl, rfl, (HS3.out.below hb).live.liveF⟩⟩))
            clear hlook hcn hrow hne hwj
            go_wp2_with fail
            go_ret2
            refine HFAIL.out _ (by first | exact Below.refl _ _ | exact bel_drew _ | exact bel_drewN _ _ | exact bel_alloc _ _ | exact (bel_alloc _ _).drew) ?_
            rintro ⟨rs', hi, hl⟩
            obtain ⟨h1, h2⟩ := HALL.out rs' hi
            have h3 := h2 j rs'[j] (by simp)
            rw [HLK.out] at h3
            cases h3
          | some x =>
          have hlk := HM3.out.look_some hwj hlook
          have hjk : (j : Int) < (Q : Int) := by omega
          obtain ⟨xp, xk, xv⟩ := x
          unfold InR.val' at hlk
          simp only at hlk
          have HX := Lib.hid hlook
          have HCN := Lib.hid hcn
          have HROW := Lib.hid hrow
          have HNE := Lib.hid hne
          have HJR := Lib.hid hjl
          clear hlook hcn hrow hne hwj
          go_upto_region 37 with fail
          obtain ⟨i0, hi0, hz0, hz1, hz2⟩ := info_parts infoIn
          have hbU := bel_alloc wr (.cells #[.int .i64 xp, .int .i64 xk, .int .i64 xv] 32)
          have hbx := heap_alloc_new wr (.cells #[.int .i64 xp, .int .i64 xk, .int .i64 xv] 32)
          obtain ⟨bx, hbxx⟩ : ∃ b, wr.heap.size = b := ⟨_, rfl⟩
          obtain ⟨U, hU⟩ : ∃ U, wr.alloc (.cells #[.int .i64 xp, .int .i64 xk, .int .i64 xv] 32) = U := ⟨_, rfl⟩
          have HBXX := Lib.hid hbxx
          have hUs : U.heap.size = bx + 1 := by rw [← hU, ← hbxx]; simp
          rw [hU] at hbU hbx ⊢
          rw [hbxx] at hbx ⊢
          have HS4 := Lib.hid (HS3.out.below hbU)
          have HM4 := Lib.hid (HM3.out.kept (hbU.block _ HM3.out.lt))
          obtain ⟨hcn, hrow, hne⟩ := HS4.out.live.cells
          have hrow' : RowAt U 32 3 lv j (inCells rs) := by have := hrow; simp only [HJR.out] at this; exact this
          obtain ⟨la, lc, rfl⟩ := hrow'.reads.shape
          have hnlt := (Array.getElem?_eq_some_iff.1 hcn).1
          have hblt := (Array.getElem?_eq_some_iff.1 hbx).1
          have HCN2 := Lib.hid hcn
          have HBX := Lib.hid hbx
          have HROW2 := Lib.hid hrow'
          have HNE2 := Lib.hid hne
          have HJL := HJR
          clear hcn hrow hne hrow' hbx hU hbxx hlk hbU
          refine wp_region_free [0, 1, 2, 3, 4, 5] 8 (fun W' => W'.heap[n]? = U.heap[n]? ∧ W'.heap[bx]? = U.heap[bx]?) (by kernel_rfl) (by kernel_rfl) ?_
          change wpYields _ _ _ _ [_, _, _, _, _, _] _
          iterate 6 (refine yields_step (fun K hK => ?_); apply Exists.intro; apply And.intro; (apply yields_at rfl; rintro W' hb; have y := hb.1.trans HCN2.out; have y2 := cells_at y 2 _ rfl; have z := hb.2.trans HBX.out; have z0 := cells_at z 0 _ rfl; have z1 := cells_at z 1 _ rfl; have z2 := cells_at z 2 _ rfl; simp only [List.getElem_toArray, List.getElem_cons_zero, List.getElem_cons_succ] at y2 z0 z1 z2; go_simp; first | done | rfl); go_simp; refine hK _ ?_; clear hK K)
          refine yields_nil ?_
          refine anyP_one (k := 6) (by kernel_rfl) (by decide) rfl rfl ⟨rfl, rfl⟩ ?_
          refine wpP_step rfl (fun K hK => ?_)
          go_simp
          refine hK _ _ ?_
          clear hK K
          have hnews := heap_alloc_new U (.cells #[.int .i64 xp, .int .i64 xk, .int .i64 xv] 32)
          rw [hUs] at hnews
          have hbV := bel_trans (bel_alloc U (.cells #[.int .i64 xp, .int .i64 xk, .int .i64 xv] 32)) (bel_drew _)
          have hone : ∀ u ∈ [Value.int .i64 xp, .int .i64 xk, .int .i64 xv], u.oneCell' = true := by simp [Value.oneCell']
          refine anyP_one (k := 7) (by kernel_rfl) (by decide) rfl rfl ⟨hbV.block n hnlt, hbV.block bx hblt⟩ ?_
          refine wpP_step rfl (fun K hK => ?_)
          refine step_append_row rfl _ _ 39 rfl 32 i0 _ 3 24 Try.underlying39 hi0 hz0 hz1 hz2 rfl (by omega) (.slice la j lc) j (inCells rs) (by rfl) (HROW2.out.kept (fun g hg => by
            obtain ⟨cur, hcur⟩ := HROW2.out.type g hg
            exact hbV.block g (Array.getElem?_eq_some_iff.1 hcur).1)) ⟨bx + 1, 0, none⟩ 1 1 [.int .i64 xp, .int .i64 xk, .int .i64 xv] rfl rfl (World.news_of_block (cs := #[.int .i64 xp, .int .i64 xk, .int .i64 xv]) (t := 32) (fr := (0, 0)) hnews) hone (by omega) (by unfold maxLen; omega) (by omega) ?_
          intro gg cap w9 hown hgrow hat hltg
          refine hK _ _ ?_
          clear hK K
          have hn9 : w9.heap[n]? = U.heap[n]? := (hgrow.block n (by have := hbV.size; omega) (Ne.symm HNE2.out)).trans (hbV.block n hnlt)
          have hb9 : w9.heap[bx]? = U.heap[bx]? := (hgrow.block bx (by have := hbV.size; omega) (fun e => by
            obtain ⟨cur, hcur⟩ := HROW.out.type bx e.symm
            have := (Array.getElem?_eq_some_iff.1 hcur).1
            have := HBXX.out
            omega)).trans (hbV.block bx hblt)
          have hrw := HS4.out.row (x := ⟨xp, xk, xv⟩) (g := gg) (cap := cap) hbV hgrow (by rw [HJL.out]; exact hown) (by rcases hat with h | h; exact .inl h; exact .inr (by omega)) hltg
          refine anyP_leaf ⟨hn9, hb9⟩ (by kernel_rfl) ?_
          simp only [List.drop_succ_cons, List.drop_zero]
          have y := hn9.trans HCN2.out
          have y2 := cells_at y 2 _ rfl
          have yf := cells_free y 2
          simp only [List.getElem_toArray, List.getElem_cons_zero, List.getElem_cons_succ] at y2
          obtain ⟨hr1, hr2⟩ := hrw
          have HR1 := Lib.hid hr1
          have HM5 := Lib.hid (HM4.out.kept hr2)
          clear hr1 hr2 hgrow hat hltg hown y hn9 hb9 hnews hbV hone
          go_wp2_with fail
          go_roundw
          case rel =>
            refine ⟨j + 1, .slice (some ⟨gg, 0, none⟩) (j + 1) cap, rs ++ [⟨xp, xk, xv⟩], by omega, by go_num, by rw [List.length_append, HJL.out]; rfl, Lib.hid (fun i x hi => ?_), Lib.hid ?_, ?_⟩
            · by_cases hij : i < rs.length
              · rw [List.getElem?_append_left hij] at hi
                exact HLS.out i x hi
              · have hlt := (List.getElem?_eq_some_iff.1 hi).1
                rw [List.length_append, List.length_singleton] at hlt
                obtain rfl : i = rs.length := by omega
                rw [List.getElem?_append_right (Nat.le_refl _), Nat.sub_self] at hi
                simp only [List.getElem?_cons_zero, Option.some.injEq] at hi
                rw [← hi, HJL.out]
                exact HX.out
            · have := HR1.out
              rw [HJL.out] at this
              exact this
            · have := HM5.out
              rw [HJL.out] at this
              exact Lib.hid this
          case measure => simp [intOf]; omega
        · obtain rfl : j = Q := by omega
          have hnj : ¬ (j : Int) < (j : Int) := by omega
          have HJR := Lib.hid hjl
          clear hjl hcn hrow hne hwj
          go_wp2_with fail
          go_ret2
          exact ⟨_, _, _, Opened.isGood HO0.out HO1.out (HIS.out rs HJR.out HLS.out) (by rw [HJR.out]; exact hlen), .inr ⟨_, n, l0, l1, lv, rfl, rfl, rfl, rfl, HS3.out.live⟩⟩

end Go.Proofs.Ytllecjhfbojgcaa
