/-
  The output: a disk that fails, a crash, and what is opened behind it; what Mark and Tell leave.
-/
import Derived.Test.YtllecjhfbojgcaaOutDisk
namespace Go.Proofs.Ytllecjhfbojgcaa
open Go.RowKit
set_option maxRecDepth 20000

def out0 : OSt := openSt (Dk.fresh 4194304) (fun _ => []) 2 0
theorem out0_r : out0.r = fun _ => [] := by
  show partly (fun _ => []) 2 0 = _
  rw [partly_end]
theorem out0_free : Lg.Free out0.D := ⟨rfl, rfl⟩
theorem OTwo.start : OTwo out0 (fun _ => []) [] := by
  refine ⟨⟨Dk.fresh_ok _ (by decide), fun p q hpq => ?_, fun p => ?_, fun p => ?_, rfl, fun p r hr => (by cases hr), fun q hq => (by cases hq), rfl, ?_⟩, fun p => ?_, fun p => ?_, fun p => ?_, fun p => ?_⟩
  · cases p <;> cases q <;> first | exact absurd rfl hpq | decide
  · cases p <;> decide
  · cases p <;> kernel_rfl
  · kernel_rfl
  · cases p <;> rfl
  · cases p <;> exact Nat.le_refl _
  · rw [out0_r]; cases p <;> rfl
  · rw [out0_r]; exact OValid.nil

theorem OTwo.power {S : OSt} {s : Bool → List Lg.Rec} {l : List (Bool × Lg.Rec)} (h : OTwo S s l) (p : Int) (hp : p ≤ 9223372036854775807) : OTwo { S with D := (Dk.power S.D p).2 } s l := by
  have hok := Dk.power_ok h.two.ok p hp
  refine ⟨?_, h.rs, h.su, h.link, h.valid⟩
  have : (Dk.power S.D p).2.sure = S.D.sure ∧ (Dk.power S.D p).2.loose = S.D.loose ∧ (Dk.power S.D p).2.room = S.D.room := by
    unfold Dk.power
    split
    · exact ⟨rfl, rfl, rfl⟩
    · split
      · exact ⟨rfl, rfl, rfl⟩
      · exact ⟨rfl, rfl, rfl⟩
  exact h.two.same hok this.1 this.2.1 this.2.2

/-- Behind a crash: a beginning of each part's records, and no loose one without those before it. -/
theorem OTwo.crash {S : OSt} {s : Bool → List Lg.Rec} {l : List (Bool × Lg.Rec)} (h : OTwo S s l) (hw : ∀ p, wtO (S.r p) ≤ 1000000) (a b : Int) :
    ∃ k, ∃ rs : Bool → List ORec, ∃ D1 D2, k ≤ l.length ∧ (∀ p, rs p = (S.r p).take ((s p).length + (Lg.pick p (l.take k)).length)) ∧ Opens (Dk.crash S.D a b) 2 D1 ((rs false).map entO) ∧ Opens D1 3 D2 ((rs true).map entO) ∧ OTwo (openSt D2 rs 2 0) (fun p => (rs p).map entO) [] ∧ Lg.Free D2 ∧ (∀ p, OValid (rs p)) ∧ (openSt D2 rs 2 0).r = rs := by
  obtain ⟨k, t, hk, ht, hsz⟩ := h.two.crash a b
  obtain ⟨rs, hrs⟩ : ∃ rs : Bool → List ORec, rs = fun p => (S.r p).take ((s p).length + (Lg.pick p (l.take k)).length) := ⟨_, rfl⟩
  have hm : (fun p => s p ++ Lg.pick p (l.take k)) = fun p => (rs p).map entO := by
    funext p
    rw [hrs]
    show _ = ((S.r p).take _).map entO
    have hpk : Lg.pick p l = Lg.pick p (l.take k) ++ Lg.pick p (l.drop k) := by rw [← Lg.pick_app, List.take_append_drop]
    rw [List.map_take, ← h.link p, h.rs p]
    conv => rhs; rw [hpk, ← List.append_assoc]
    rw [List.take_left' (by rw [List.length_append])]
  have hbs : ∀ p, (Lg.bytesOf ((rs p).map entO)).length + (t p).length ≤ 1000000 := fun p => by
    have h1 := hsz p
    rw [show (s p ++ Lg.pick p (l.take k)) = (rs p).map entO from congrFun hm p, ← h.rs p, h.link p] at h1
    have := bytes_wt (S.r p)
    have := hw p
    omega
  rw [hm] at ht
  obtain ⟨D1, D2, ho0, ho1, ht2⟩ := ht.both hbs
  have hr : (openSt D2 rs 2 0).r = rs := by
    show partly rs 2 0 = _
    rw [partly_end]
  have hv : ∀ p, OValid (rs p) := fun p => by rw [hrs]; exact (h.valid p).take _
  refine ⟨k, rs, D1, D2, hk, fun p => by rw [hrs], ho0, ho1, ⟨ht2.two, fun p => ?_, fun p => ?_, fun p => ?_, fun p => by rw [hr]; exact hv p⟩, ht2.free, hv, hr⟩
  · cases p <;> exact (List.append_nil _).symm
  · cases p <;> (show List.length _ ≤ List.length (List.map _ _); rw [List.length_map]; exact Nat.le_refl _)
  · rw [hr]; cases p <;> rfl


/-- Tell of at most 500. -/
theorem OTwo.tell1 {S : OSt} {s : Bool → List Lg.Rec} {l : List (Bool × Lg.Rec)} (h : OTwo S s l) (hF : Lg.Free S.D) (p : Bool) (n : Int) (x : List OutX) (hn : Cl.In64 n) (h1 : 1 ≤ n) (hx : OIn x) (hxl : x.length ≤ 1000) (hl1 : lastO (S.r p) 1 < n) (hl2 : lastO (S.r p) 2 < n) (hlen : (S.r p).length < 100000000) (hroom : wtO (S.r false) + wtO (S.r true) + (25 + 20 * x.length) ≤ 4194304) :
    (S.tell p n x).1 = 0 ∧ (S.tell p n x).2.r = upd S.r p (S.r p ++ [⟨1, n, x⟩]) ∧ OTwo (S.tell p n x).2 s (l ++ [(p, entO ⟨1, n, x⟩)]) ∧ Lg.Free (S.tell p n x).2.D := by
  have ht : takesO (S.r p) ⟨1, n, x⟩ = true := by
    unfold takesO
    rw [if_pos rfl]
    simp only [Bool.and_eq_true, decide_eq_true_eq]
    exact ⟨⟨by show lastO _ _ ≤ n; omega, hl2⟩, hxl⟩
  have hp := h.put p ⟨1, n, x⟩ ⟨hn, hx, hxl, .inl rfl⟩ h1 (fun e => absurd e (by show ¬ (1 : UInt8) = 2; decide)) ht hlen hroom
  have e : S.tell p n x = OSt.tells p n (x.length / 1000 + 1) S x := by
    unfold OSt.tell
    rw [if_neg (by omega)]
  obtain ⟨f, hf⟩ : ∃ f, x.length / 1000 = f := ⟨_, rfl⟩
  rw [hf] at e
  have e2 : OSt.tells p n (f + 1) S x = if (S.put p ⟨1, n, x.take 1000⟩).1 ≠ 0 then S.put p ⟨1, n, x.take 1000⟩ else if x.length ≤ 1000 then (0, (S.put p ⟨1, n, x.take 1000⟩).2) else OSt.tells p n f (S.put p ⟨1, n, x.take 1000⟩).2 (x.drop 1000) := rfl
  rw [List.take_of_length_le hxl] at e2
  rcases hp with ⟨q1, q2, -⟩ | ⟨q1, q2, q3, q4⟩
  · exact absurd hF q2
  · rw [e, e2, if_neg (by rw [q1]; decide), if_pos hxl]
    exact ⟨rfl, q2, q3, q4 hF⟩

/-- A part's records behind Mark, and what is put. -/
def markR (n : Int) (rs : List ORec) : List ORec := if n ≤ lastO rs 2 then rs else rs ++ [⟨2, n, []⟩]
def markL (n : Int) (p : Bool) (rs : List ORec) : List (Bool × Lg.Rec) := if n ≤ lastO rs 2 then [] else [(p, entO ⟨2, n, []⟩)]
theorem markR_wt (n : Int) (rs : List ORec) : wtO (markR n rs) ≤ wtO rs + 25 := by
  unfold markR
  split
  · omega
  · rw [wtO_snoc]; show _ + (25 + 20 * 0) ≤ _; omega
theorem markR_len (n : Int) (rs : List ORec) : (markR n rs).length ≤ rs.length + 1 := by
  unfold markR
  split
  · omega
  · simp
def Markable (n : Int) (rs : List ORec) : Prop := n ≤ lastO rs 2 ∨ takesO rs ⟨2, n, []⟩ = true
theorem upd_self {α : Type} (f : Bool → α) (p : Bool) : upd f p (f p) = f := by
  funext q
  by_cases h : q = p
  · rw [h, upd_same]
  · rw [upd_ne _ _ h]
theorem OTwo.mark1 {S : OSt} {s : Bool → List Lg.Rec} {l : List (Bool × Lg.Rec)} (h : OTwo S s l) (n : Int) (p : Bool) (hn : Cl.In64 n) (h1 : 1 ≤ n) (ht : Markable n (S.r p)) (hlen : (S.r p).length < 100000000) (hroom : wtO (S.r false) + wtO (S.r true) + 25 ≤ 4194304) :
    ((OSt.mark1 n S p).1 = 50 ∧ ¬ Lg.Free S.D ∧ (OSt.mark1 n S p).2.r = S.r ∧ OTwo (OSt.mark1 n S p).2 s l) ∨
    ((OSt.mark1 n S p).1 = 0 ∧ (OSt.mark1 n S p).2.r = upd S.r p (markR n (S.r p)) ∧ OTwo (OSt.mark1 n S p).2 s (l ++ markL n p (S.r p)) ∧ (Lg.Free S.D → Lg.Free (OSt.mark1 n S p).2.D)) := by
  unfold OSt.mark1 markR markL
  by_cases hs : n ≤ lastO (S.r p) 2
  · rw [if_pos hs, if_pos hs, if_pos hs, List.append_nil, upd_self]
    exact .inr ⟨rfl, rfl, h, id⟩
  · rw [if_neg hs, if_neg hs, if_neg hs]
    have ht := ht.resolve_left hs
    rw [if_neg (by rw [ht]; decide)]
    exact h.put p ⟨2, n, []⟩ ⟨hn, fun x hx => (by cases hx), Nat.zero_le _, .inr rfl⟩ h1 (fun _ => rfl) ht hlen (by show _ + (25 + 20 * 0) ≤ _; omega)

theorem OTwo.mark {S : OSt} {s : Bool → List Lg.Rec} {l : List (Bool × Lg.Rec)} (h : OTwo S s l) (n : Int) (hn : Cl.In64 n) (h1 : 1 ≤ n) (ht : ∀ p, Markable n (S.r p)) (hlen : ∀ p, (S.r p).length < 100000000) (hroom : wtO (S.r false) + wtO (S.r true) + 50 ≤ 4194304) :
    ((S.mark n).1 = 0 ∧ (S.mark n).2.r = (fun p => markR n (S.r p)) ∧ (∃ s', OTwo (S.mark n).2 s' []) ∧ (Lg.Free S.D → Lg.Free (S.mark n).2.D)) ∨
    ((S.mark n).1 = 50 ∧ ¬ Lg.Free S.D ∧ (((S.mark n).2.r = S.r ∧ OTwo (S.mark n).2 s l) ∨ ((S.mark n).2.r = upd S.r false (markR n (S.r false)) ∧ OTwo (S.mark n).2 s (l ++ markL n false (S.r false))) ∨
      ((S.mark n).2.r = (fun p => markR n (S.r p)) ∧ (OTwo (S.mark n).2 s (l ++ markL n false (S.r false) ++ markL n true (S.r true)) ∨ ∃ s', OTwo (S.mark n).2 s' [])))) := by
  have e : S.mark n = if (S.each (OSt.mark1 n)).1 ≠ 0 then S.each (OSt.mark1 n) else (S.each (OSt.mark1 n)).2.sync := by
    unfold OSt.mark
    rw [if_neg (by omega)]
  have e2 : S.each (OSt.mark1 n) = if (OSt.mark1 n S false).1 ≠ 0 then OSt.mark1 n S false else OSt.mark1 n (OSt.mark1 n S false).2 true := rfl
  rcases h.mark1 n false hn h1 (ht false) (hlen false) (by omega) with ⟨q1, q2, q3, q4⟩ | ⟨q1, q2, q3, q4⟩
  · rw [if_pos (by rw [q1]; decide)] at e2
    rw [e, e2, if_pos (by rw [q1]; decide)]
    exact .inr ⟨q1, q2, .inl ⟨q3, q4⟩⟩
  · rw [if_neg (by rw [q1]; decide)] at e2
    have ert : (OSt.mark1 n S false).2.r true = S.r true := by rw [q2, upd_ne _ _ (by decide)]
    have erf : (OSt.mark1 n S false).2.r false = markR n (S.r false) := by rw [q2, upd_same]
    have hw := markR_wt n (S.r false)
    rcases q3.mark1 n true hn h1 (by rw [ert]; exact ht true) (by rw [ert]; exact hlen true) (by rw [ert, erf]; omega) with ⟨r1, r2, r3, r4⟩ | ⟨r1, r2, r3, r4⟩
    · rw [e, e2, if_pos (by rw [r1]; decide)]
      exact .inr ⟨r1, fun hF => r2 (q4 hF), .inr (.inl ⟨r3.trans q2, r4⟩)⟩
    · rw [e, e2, if_neg (by rw [r1]; decide)]
      have hr : (OSt.mark1 n (OSt.mark1 n S false).2 true).2.r = fun p => markR n (S.r p) := by
        rw [r2, q2]
        funext p
        cases p
        · rw [upd_ne _ _ (by decide), upd_same]
        · rw [upd_same, upd_ne _ _ (by decide)]
      rw [ert] at r3
      rcases r3.sync with ⟨u1, u2, u3, u4⟩ | ⟨u1, u2, u3, u4⟩
      · exact .inl ⟨u1, u2.trans hr, ⟨_, u3⟩, fun hF => u4 (r4 (q4 hF))⟩
      · refine .inr ⟨u1, fun hF => u2 (r4 (q4 hF)), .inr (.inr ⟨u3.trans hr, ?_⟩)⟩
        rcases u4 with u4 | u4
        · exact .inl u4
        · exact .inr ⟨_, u4⟩

/-- The disk out of an output. -/
theorem OutLive.disk {fr : Fr} {w : World} {o d : Nat} {S : OSt} (h : OutLive fr w o d S) : LiveF fr w d S.D := by
  obtain ⟨b, l, col, h⟩ := h
  exact ⟨fun k => col k = 1, h.disk, fun k hk hK => (by have := h.keep k hK; have hk : col k = 1 := hk; omega), h.old⟩
theorem out_power {fr : Fr} {w : World} {o d : Nat} {S : OSt} (h : OutLive fr w o d S) (p : Int) (hp : p ≤ 9223372036854775807) :
    Calls Try.prog 19 #[ptr d 0, .int .i64 p] w fun e w' => e = .returned (.int .i64 (Dk.power S.D p).1) ∧ OutLive fr w' o d { S with D := (Dk.power S.D p).2 } := by
  obtain ⟨b, l, col, h⟩ := h
  refine (power_any w d S.D _ h.disk p hp).mono ?_
  rintro e w' ⟨rfl, ho, hd⟩
  exact ⟨rfl, b, l, col, h.diskOnly (ho.mono (fun k hk => by rw [hk]; exact h.disk.mem)) hd⟩
theorem lf_crash {fr : Fr} {w : World} {d : Nat} {D : Dk.St} (h : LiveF fr w d D) (a b : Int) :
    Calls Try.prog 20 #[ptr d 0, .int .i64 a, .int .i64 b] w fun e w' => e = .returned (.tuple #[]) ∧ LiveF fr w' d (Dk.crash D a b) := by
  obtain ⟨F, h1, h2, h3⟩ := h
  refine (crash_any w d D F h1 a b).mono ?_
  rintro e w' ⟨rfl, ho, hd⟩
  exact ⟨rfl, F, hd, h2, h3.only ho h2⟩

end Go.Proofs.Ytllecjhfbojgcaa
