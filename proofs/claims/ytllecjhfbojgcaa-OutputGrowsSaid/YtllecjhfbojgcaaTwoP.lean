/-
  A log whose file holds its records' bytes, on a disk with room and without a limit: Put and Cut.
-/
import Derived.Test.YtllecjhfbojgcaaLogWorks
namespace Go.Proofs.Ytllecjhfbojgcaa
namespace Lg

structure Holds (D : Dk.St) (f : Nat) (L : St) : Prop where
  free : Free D
  len : D.now.length = 16
  room : D.room = 4194304
  bytes : (Dk.at' D.now f).data.toList = bytesOf L.rs
  total : Dk.total D.now = (bytesOf L.rs).length
  good : ∀ r ∈ L.rs, Good r

theorem Holds.size {D : Dk.St} {f : Nat} {L : St} (h : Holds D f L) : (Dk.at' D.now f).size = (bytesOf L.rs).length := by
  rw [← len_data, h.bytes]

theorem Free.append {D : Dk.St} (h : Free D) (f : Nat) (hf : f < 16) (s : ByteArray) (hs : Dk.total D.now + s.size ≤ D.room) : Dk.append D f s = (0, { D with now := (Dk.Ch.app f s).run D.now, loose := D.loose ++ [.app f s] }) := by
  have hr : Dk.ready D [(f : Int)] = 0 := by
    unfold Dk.ready Dk.argE
    rw [h.off, if_neg (by simp), if_pos (by simp [Dk.isF]; omega)]
  unfold Dk.append
  rw [hr, if_neg (by simp), if_neg (by unfold Dk.leftOf; omega), Int.toNat_natCast]
  unfold Dk.change
  rw [h.left, if_neg (by decide)]
  simp [Dk.less]

theorem Holds.put_bad {D : Dk.St} {f : Nat} {L : St} (r : Rec) (hk : r.kind.toNat = 0) : put D f L r = (2, D, L) := by
  have : putE r.kind r.text = 2 := if_pos hk
  unfold Lg.put
  rw [this, if_pos (by decide)]

theorem Holds.put {D : Dk.St} {f : Nat} {L : St} (h : Holds D f L) (hf : f < 16) (r : Rec) (hk : r.kind.toNat ≠ 0) (hr : r.text.size ≤ 1000) (hb : (bytesOf L.rs).length ≤ 400000) :
    (Lg.put D f L r).1 = 0 ∧ (Lg.put D f L r).2.2 = { L with rs := L.rs ++ [r] } ∧ Holds (Lg.put D f L r).2.1 f { L with rs := L.rs ++ [r] } := by
  have hg : Good r := ⟨hk, by omega⟩
  have he := putE_good.2 hg
  have hl := frame_le r
  have hsz : (⟨(frameB r).toArray⟩ : ByteArray).size = (frameB r).length := List.size_toArray
  have ha := h.free.append f hf ⟨(frameB r).toArray⟩ (by rw [h.total, h.room, hsz]; omega)
  have hp : Lg.put D f L r = (0, { D with now := (Dk.Ch.app f ⟨(frameB r).toArray⟩).run D.now, loose := D.loose ++ [.app f ⟨(frameB r).toArray⟩] }, { L with rs := L.rs ++ [r] }) := by
    unfold Lg.put
    rw [if_neg (by simpa using he), ha, if_neg (by simp)]
  rw [hp]
  refine ⟨rfl, rfl, ⟨h.free.off, h.free.left⟩, ?_, h.room, ?_, ?_, fun x hx => ?_⟩
  · show ((Dk.Ch.app f _).run D.now).length = 16
    rw [Dk.run_len, h.len]
  · show (Dk.at' (D.now.set f _) f).data.toList = _
    rw [Dk.at_set_same _ _ _ (by rw [h.len]; exact hf), bytes_snoc]
    simp [h.bytes]
  · show Dk.total ((Dk.Ch.app f _).run D.now) = _
    rw [Dk.total_app _ _ _ (by rw [h.len]; exact hf), h.total, hsz]
    show _ = (bytesOf (L.rs ++ [r])).length
    rw [bytes_snoc, List.length_append]
  · have hx : x ∈ L.rs ++ [r] := hx
    rcases List.mem_append.1 hx with hx | hx
    · exact h.good x hx
    · rw [List.mem_singleton] at hx
      subst hx
      exact hg

theorem cut_range {D : Dk.St} {f : Int} {L : St} (q : Int) (hq : ¬ (0 ≤ q ∧ q ≤ (L.rs.length : Int))) : Lg.cut D f L q = (5, D, L) := by
  unfold Lg.cut
  rw [if_pos (by omega)]

theorem Holds.cut {D : Dk.St} {f : Nat} {L : St} (h : Holds D f L) (hf : f < 16) (k : Nat) (hk : k ≤ L.rs.length) :
    (Lg.cut D f L k).1 = 0 ∧ (Lg.cut D f L k).2.2.rs = L.rs.take k ∧ Holds (Lg.cut D f L k).2.1 f (Lg.cut D f L k).2.2 := by
  by_cases hkl : k = L.rs.length
  · subst hkl
    have hc : Lg.cut D f L L.rs.length = (0, D, L) := by
      unfold Lg.cut
      rw [if_neg (by omega), if_pos rfl]
    rw [hc]
    exact ⟨rfl, by rw [List.take_length], h⟩
  · have hle := ends_le L.rs k
    have hcu := h.free.cut f (ends L.rs k) hf (by rw [h.size]; exact hle)
    have hfr : Free { D with now := (Dk.Ch.cut f (ends L.rs k)).run D.now, loose := D.loose ++ [.cut f (ends L.rs k)] } := ⟨h.free.off, h.free.left⟩
    have hc : Lg.cut D f L k = (0, { D with now := (Dk.Ch.cut f (ends L.rs k)).run D.now, loose := [], sure := (Dk.Ch.cut f (ends L.rs k)).run D.now }, ⟨L.rs.take k, k⟩) := by
      unfold Lg.cut
      rw [if_neg (by omega), if_neg (by omega), Int.toNat_natCast, hcu, if_neg (by simp)]
      unfold cutDone
      rw [hfr.sync, if_pos rfl]
    rw [hc]
    refine ⟨rfl, rfl, ⟨h.free.off, h.free.left⟩, ?_, h.room, ?_, ?_, fun x hx => h.good x (List.mem_of_mem_take hx)⟩
    · show ((Dk.Ch.cut f _).run D.now).length = 16
      rw [Dk.run_len, h.len]
    · show (Dk.at' (D.now.set f _) f).data.toList = bytesOf (L.rs.take k)
      rw [Dk.at_set_same _ _ _ (by rw [h.len]; exact hf), Lib.extract_data, h.bytes]
      simp only [List.drop_zero, Nat.sub_zero]
      exact take_bytes L.rs k
    · show Dk.total (D.now.set f ((Dk.at' D.now f).extract 0 (ends L.rs k))) = (bytesOf (L.rs.take k)).length
      have := Dk.total_set D.now f ((Dk.at' D.now f).extract 0 (ends L.rs k)) (by rw [h.len]; exact hf)
      rw [ByteArray.size_extract, h.size, h.total] at this
      show _ = ends L.rs k
      omega

theorem Holds.fresh (f : Nat) (hf : f < 16) : Holds (Dk.fresh 4194304) f ⟨[], 0⟩ := by
  refine ⟨⟨rfl, rfl⟩, by decide, rfl, ?_, by decide, fun r hr => by cases hr⟩
  show (Dk.at' Dk.none' f).data.toList = []
  have : Dk.at' Dk.none' f = ByteArray.empty := by
    unfold Dk.at' Dk.none'
    rw [List.getD_eq_getElem?_getD, List.getElem?_replicate, if_pos hf]
    rfl
  rw [this]
  rfl

end Lg
end Go.Proofs.Ytllecjhfbojgcaa

/-
  Two logs over one disk, plainly: what is on the disk while they are written, behind a crash, and when they are opened.
-/
namespace Go.Proofs.Ytllecjhfbojgcaa
open Go.RowKit
set_option maxRecDepth 20000

/-- What log.Open of a file needs, and what it leaves. -/
structure Opens (D : Dk.St) (file : Int) (D' : Dk.St) (R : List Lg.Rec) : Prop where
  hr : (Dk.read D file).2 = 0
  hsz : (Dk.read D file).1.size ≤ 1000000
  hm : D.loose.length ≤ 1000000000
  hcut : (Dk.cut D file (Lg.bytesOf (Lg.parse (Dk.read D file).1)).length).1 = 0
  hsy : (Dk.sync (Dk.cut D file (Lg.bytesOf (Lg.parse (Dk.read D file).1)).length).2).1 = 0
  parse : Lg.parse (Dk.read D file).1 = R
  opened : Lg.opened D file = D'
theorem Opens.call {w : World} {d : Nat} {D D' : Dk.St} {F : Nat → Prop} {file : Int} {R : List Lg.Rec} (h : Opens D file D' R) (hd : DiskAt w d D F) :
    Calls Try.prog 44 #[ptr d 0, .int .i64 file] w fun e w' => ∃ l, e = .returned (.tuple #[ptr l 0, .int .i64 0]) ∧ w.heap.size ≤ l ∧ Turned2 w w' l d file D' ⟨R, R.length⟩ F (fun _ => False) := by
  have := logopen_any w d D F hd file h.hr h.hsz h.hm h.hcut h.hsy
  rwa [h.parse, h.opened] at this

theorem Opens.free {D : Dk.St} (hF : Lg.Free D) (f : Nat) (hf : f < 16) (rs : List Lg.Rec) (t : List UInt8) (ht : (Dk.at' D.now f).data.toList = Lg.bytesOf rs ++ t) (hp : Lg.parse (Dk.at' D.now f) = rs) (hsz : (Dk.at' D.now f).size ≤ 1000000) (hm : D.loose.length ≤ 1000000000) : Opens D f (Lg.opened D f) rs := by
  have hr := hF.read f hf
  have hs : (Dk.at' D.now f).size = (Lg.bytesOf rs).length + t.length := by rw [← len_data, ht, List.length_append]
  have hc := hF.cut f (Lg.bytesOf rs).length hf (by omega)
  have h1 : Lg.Free { D with now := (Dk.Ch.cut f (Lg.bytesOf rs).length).run D.now, loose := D.loose ++ [.cut f (Lg.bytesOf rs).length] } := ⟨hF.off, hF.left⟩
  exact ⟨by rw [hr], by rw [hr]; exact hsz, hm, by rw [hr]; show (Dk.cut D f ((Lg.bytesOf (Lg.parse (Dk.at' D.now f))).length : Nat)).1 = 0; rw [hp, hc], by rw [hr]; show (Dk.sync (Dk.cut D f ((Lg.bytesOf (Lg.parse (Dk.at' D.now f))).length : Nat)).2).1 = 0; rw [hp, hc, h1.sync], by rw [hr]; exact hp, rfl⟩

namespace Lg

def pick (p : Bool) (l : List (Bool × Rec)) : List Rec := (l.filter fun q => q.1 == p).map (·.2)
theorem pick_nil (p : Bool) : pick p [] = [] := rfl
theorem pick_app (p : Bool) (l m : List (Bool × Rec)) : pick p (l ++ m) = pick p l ++ pick p m := by simp [pick]
theorem pick_same (p : Bool) (r : Rec) : pick p [(p, r)] = [r] := by simp [pick]
theorem pick_other {p q : Bool} (h : q ≠ p) (r : Rec) : pick p [(q, r)] = [] := by simp [pick, h]
theorem pick_mem {p : Bool} {l : List (Bool × Rec)} {r : Rec} (h : r ∈ pick p l) : ∃ q ∈ l, q.2 = r := by
  obtain ⟨q, hq, rfl⟩ := List.mem_map.1 h
  exact ⟨q, (List.mem_filter.1 hq).1, rfl⟩
theorem bytes_app (a b : List Rec) : bytesOf (a ++ b) = bytesOf a ++ bytesOf b := by simp [bytesOf]
theorem bytes_one (r : Rec) : bytesOf [r] = frameB r := by simp [bytesOf]

def frA (r : Rec) : ByteArray := ⟨(frameB r).toArray⟩
theorem frA_size (r : Rec) : (frA r).size = (frameB r).length := List.size_toArray
def app2 (f : Bool → Nat) (q : Bool × Rec) : Dk.Ch := .app (f q.1) (frA q.2)

/-- s: the records of both files that are sure; l: those that are loose, in their order. -/
structure Two (f : Bool → Nat) (D : Dk.St) (s : Bool → List Rec) (l : List (Bool × Rec)) : Prop where
  ok : Dk.Ok D
  ne : ∀ p q, p ≠ q → f p ≠ f q
  lt : ∀ p, f p < 16
  b : ∀ p, (Dk.at' D.sure (f p)).data.toList = bytesOf (s p)
  loose : D.loose = l.map (app2 f)
  gs : ∀ p, ∀ r ∈ s p, Good r
  gl : ∀ q ∈ l, Good q.2
  room : D.room = 4194304
  tot : Dk.total D.sure = (bytesOf (s false)).length + (bytesOf (s true)).length

theorem Two.same {f : Bool → Nat} {D D' : Dk.St} {s : Bool → List Rec} {l : List (Bool × Rec)} (h : Two f D s l) (hok : Dk.Ok D') (h1 : D'.sure = D.sure) (h2 : D'.loose = D.loose) (h3 : D'.room = D.room) : Two f D' s l :=
  ⟨hok, h.ne, h.lt, by rw [h1]; exact h.b, by rw [h2]; exact h.loose, h.gs, h.gl, h3.trans h.room, by rw [h1]; exact h.tot⟩

theorem run_app2 {f : Bool → Nat} (ne : ∀ p q, p ≠ q → f p ≠ f q) (lt : ∀ p, f p < 16) (q : Bool × Rec) (fs : Dk.Files) (hf : fs.length = 16) (p : Bool) :
    (Dk.at' ((app2 f q).run fs) (f p)).data.toList = (Dk.at' fs (f p)).data.toList ++ bytesOf (pick p [q]) := by
  obtain ⟨q, r⟩ := q
  by_cases hq : q = p
  · subst hq
    have : Dk.at' ((app2 f (q, r)).run fs) (f q) = Dk.at' fs (f q) ++ frA r := Dk.at_set_same _ _ _ (by rw [hf]; exact lt q)
    rw [this, pick_same, bytes_one]
    simp [frA]
  · have : Dk.at' ((app2 f (q, r)).run fs) (f p) = Dk.at' fs (f p) := Dk.at_set_ne _ _ _ _ (ne q p hq)
    rw [this, pick_other hq]
    simp [bytesOf]
theorem runs_app2 {f : Bool → Nat} (ne : ∀ p q, p ≠ q → f p ≠ f q) (lt : ∀ p, f p < 16) (l : List (Bool × Rec)) : ∀ (fs : Dk.Files), fs.length = 16 → ∀ p, (Dk.at' (Dk.runs fs (l.map (app2 f))) (f p)).data.toList = (Dk.at' fs (f p)).data.toList ++ bytesOf (pick p l) := by
  induction l with
  | nil => intro fs _ p; simp [Dk.runs_nil, bytesOf, pick]
  | cons q l ih =>
    intro fs hf p
    rw [List.map_cons, Dk.runs_cons, ih _ (by rw [Dk.run_len, hf]), run_app2 ne lt q fs hf p, show q :: l = [q] ++ l from rfl, pick_app, bytes_app, List.append_assoc]
theorem run_total {f : Bool → Nat} (lt : ∀ p, f p < 16) (q : Bool × Rec) (fs : Dk.Files) (hf : fs.length = 16) : Dk.total ((app2 f q).run fs) = Dk.total fs + (bytesOf (pick false [q])).length + (bytesOf (pick true [q])).length := by
  obtain ⟨q, r⟩ := q
  have := Dk.total_app (f q) (frA r) fs (by have := lt q; omega)
  rw [frA_size] at this
  cases q
  · rw [pick_same, pick_other (by decide), bytes_one]
    simpa [app2, bytesOf] using this
  · rw [pick_same, pick_other (by decide), bytes_one]
    simpa [app2, bytesOf] using this
theorem runs_total {f : Bool → Nat} (lt : ∀ p, f p < 16) (l : List (Bool × Rec)) : ∀ (fs : Dk.Files), fs.length = 16 → Dk.total (Dk.runs fs (l.map (app2 f))) = Dk.total fs + (bytesOf (pick false l)).length + (bytesOf (pick true l)).length := by
  induction l with
  | nil => intro fs _; simp [Dk.runs_nil, bytesOf, pick]
  | cons q l ih =>
    intro fs hf
    rw [List.map_cons, Dk.runs_cons, ih _ (by rw [Dk.run_len, hf]), run_total lt q fs hf, show q :: l = [q] ++ l from rfl, pick_app, pick_app, bytes_app, bytes_app, List.length_append, List.length_append]
    omega

theorem Two.now {f : Bool → Nat} {D : Dk.St} {s : Bool → List Rec} {l : List (Bool × Rec)} (h : Two f D s l) (p : Bool) : (Dk.at' D.now (f p)).data.toList = bytesOf (s p ++ pick p l) := by
  rw [h.ok.now, h.loose, runs_app2 h.ne h.lt l _ h.ok.sureL p, h.b, bytes_app]
theorem Two.total {f : Bool → Nat} {D : Dk.St} {s : Bool → List Rec} {l : List (Bool × Rec)} (h : Two f D s l) : Dk.total D.now = (bytesOf (s false ++ pick false l)).length + (bytesOf (s true ++ pick true l)).length := by
  rw [h.ok.now, h.loose, runs_total h.lt l _ h.ok.sureL, h.tot, bytes_app, bytes_app, List.length_append, List.length_append]
  omega
theorem Two.good {f : Bool → Nat} {D : Dk.St} {s : Bool → List Rec} {l : List (Bool × Rec)} (h : Two f D s l) (p : Bool) : ∀ r ∈ s p ++ pick p l, Good r := fun r hr => by
  rcases List.mem_append.1 hr with hr | hr
  · exact h.gs p r hr
  · obtain ⟨q, hq, rfl⟩ := pick_mem hr
    exact h.gl q hq

/-- What Put answers: a disk that is on and has room takes a good record. -/
theorem put_code {D : Dk.St} {f : Nat} (hf : f < 16) (L : St) (r : Rec) (hg : Good r) (hroom : Dk.total D.now + (frameB r).length ≤ D.room) :
    Lg.put D f L r = if D.off = true then (50, D, L) else if D.left = 0 then (50, { D with off := true }, L) else (0, { D with now := (Dk.Ch.app f (frA r)).run D.now, loose := D.loose ++ [.app f (frA r)], left := Dk.less D.left }, { L with rs := L.rs ++ [r] }) := by
  have he := putE_good.2 hg
  have hsz : (⟨(frameB r).toArray⟩ : ByteArray).size = (frameB r).length := List.size_toArray
  have harg : Dk.argE [(f : Int)] = 0 := Dk.argE_ok (by simp [Dk.isF]; omega)
  unfold Lg.put
  rw [if_neg (by simpa using he)]
  unfold Dk.append Dk.ready
  rw [harg, hsz]
  by_cases ho : D.off = true
  · rw [if_pos ho]
    simp [ho]
  · have hl : ¬ Dk.leftOf D < ((frameB r).length : Int) := by unfold Dk.leftOf; omega
    rw [if_neg ho]
    simp only [if_neg ho, ne_eq, not_true_eq_false, if_false, if_neg hl, Int.toNat_natCast]
    unfold Dk.change
    by_cases h0 : D.left = 0
    · simp [h0]
    · simp [h0, frA]

theorem Two.put {f : Bool → Nat} {D : Dk.St} {s : Bool → List Rec} {l : List (Bool × Rec)} (h : Two f D s l) (p : Bool) (L : St) (r : Rec) (hg : Good r) (hroom : Dk.total D.now + (frameB r).length ≤ 4194304) :
    (Lg.put D (f p) L r).1 = 50 ∧ (D.off = true ∨ D.left = 0) ∧ (Lg.put D (f p) L r).2.2 = L ∧ Two f (Lg.put D (f p) L r).2.1 s l ∨
    (Lg.put D (f p) L r).1 = 0 ∧ (Lg.put D (f p) L r).2.2 = { L with rs := L.rs ++ [r] } ∧ Two f (Lg.put D (f p) L r).2.1 s (l ++ [(p, r)]) ∧ (Free D → Free (Lg.put D (f p) L r).2.1) := by
  have hok : Dk.Ok (Lg.put D (f p) L r).2.1 := by
    unfold Lg.put
    split
    · exact h.ok
    · split
      · exact Dk.append_ok h.ok _ _
      · exact Dk.append_ok h.ok _ _
  rw [put_code (h.lt p) L r hg (by rw [h.room]; exact hroom)] at hok ⊢
  by_cases ho : D.off = true
  · rw [if_pos ho]
    exact .inl ⟨rfl, .inl ho, rfl, h⟩
  · rw [if_neg ho] at hok ⊢
    by_cases h0 : D.left = 0
    · rw [if_pos h0] at hok ⊢
      exact .inl ⟨rfl, .inr h0, rfl, h.same hok rfl rfl rfl⟩
    · rw [if_neg h0] at hok ⊢
      refine .inr ⟨rfl, rfl, ⟨hok, h.ne, h.lt, h.b, ?_, h.gs, fun q hq => ?_, h.room, h.tot⟩, fun hF => ⟨hF.off, ?_⟩⟩
      · show D.loose ++ [_] = _
        rw [h.loose, List.map_append]
        rfl
      · rcases List.mem_append.1 hq with hq | hq
        · exact h.gl q hq
        · rw [List.mem_singleton.1 hq]; exact hg
      · show Dk.less D.left = -1
        rw [hF.left]
        decide

theorem Two.sync {f : Bool → Nat} {D : Dk.St} {s : Bool → List Rec} {l : List (Bool × Rec)} (h : Two f D s l) (p : Bool) (L : St) (hL : L.rs = s p ++ pick p l) (hs : L.sure ≤ (s p).length) :
    (Lg.sync D L).1 = 50 ∧ (D.off = true ∨ D.left = 0) ∧ (Lg.sync D L).2.2 = L ∧ Two f (Lg.sync D L).2.1 s l ∨
    (Lg.sync D L).1 = 0 ∧ (Lg.sync D L).2.2 = ⟨L.rs, L.rs.length⟩ ∧ (pick p l = [] ∧ (Lg.sync D L).2.1 = D ∨ Two f (Lg.sync D L).2.1 (fun p => s p ++ pick p l) []) ∧ (Free D → Free (Lg.sync D L).2.1) := by
  unfold Lg.sync
  by_cases he : L.sure = L.rs.length
  · rw [if_pos he]
    have hp : pick p l = [] := by
      rw [hL, List.length_append] at he
      exact List.length_eq_zero_iff.1 (by omega)
    refine .inr ⟨rfl, ?_, .inl ⟨hp, rfl⟩, id⟩
    show L = _
    rw [← he]
  · rw [if_neg he]
    have hok := Dk.sync_ok h.ok
    have hcode : Dk.sync D = if D.off = true then (50, D) else if D.left = 0 then (50, { D with off := true }) else (0, { D with sure := D.now, loose := [], left := Dk.less D.left }) := rfl
    rw [hcode] at hok ⊢
    by_cases ho : D.off = true
    · rw [if_pos ho, if_neg (by simp)]
      exact .inl ⟨rfl, .inl ho, rfl, h⟩
    · rw [if_neg ho] at hok ⊢
      by_cases h0 : D.left = 0
      · rw [if_pos h0] at hok ⊢
        rw [if_neg (by simp)]
        exact .inl ⟨rfl, .inr h0, rfl, h.same hok rfl rfl rfl⟩
      · rw [if_neg h0] at hok ⊢
        rw [if_pos rfl]
        refine .inr ⟨rfl, rfl, .inr ⟨hok, h.ne, h.lt, h.now, rfl, h.good, fun q hq => (by cases hq), h.room, h.total⟩, fun hF => ⟨hF.off, ?_⟩⟩
        show Dk.less D.left = -1
        rw [hF.left]
        decide

/-- What stands in both files: whole records, and maybe a beginning of one more. -/
structure Tear (f : Bool → Nat) (D : Dk.St) (s : Bool → List Rec) (t : Bool → List UInt8) : Prop where
  ok : Dk.Ok D
  free : Free D
  same : D.sure = D.now
  loose : D.loose = []
  ne : ∀ p q, p ≠ q → f p ≠ f q
  lt : ∀ p, f p < 16
  b : ∀ p, (Dk.at' D.now (f p)).data.toList = bytesOf (s p) ++ t p
  torn : ∀ p, (Cl.takeF (t p)).2.2.2 ≠ 0
  gs : ∀ p, ∀ r ∈ s p, Good r
  room : D.room = 4194304
  tot : Dk.total D.now = ((bytesOf (s false)).length + (t false).length) + ((bytesOf (s true)).length + (t true).length)

theorem Tear.two {f : Bool → Nat} {D : Dk.St} {s : Bool → List Rec} (h : Tear f D s (fun _ => [])) : Two f D s [] :=
  ⟨h.ok, h.ne, h.lt, fun p => by rw [h.same, h.b, List.append_nil], h.loose, h.gs, fun q hq => (by cases hq), h.room, by rw [h.same, h.tot]; rfl⟩
theorem Two.tear {f : Bool → Nat} {D : Dk.St} {s : Bool → List Rec} (h : Two f D s []) (hF : Free D) : Tear f D s (fun _ => []) := by
  have hn : D.sure = D.now := by rw [h.ok.now, h.loose]; rfl
  exact ⟨h.ok, hF, hn, h.loose, h.ne, h.lt, fun p => by rw [← hn, h.b, List.append_nil], fun _ => takeF_nil, h.gs, h.room, by rw [← hn, h.tot]; rfl⟩
theorem Tear.size {f : Bool → Nat} {D : Dk.St} {s : Bool → List Rec} {t : Bool → List UInt8} (h : Tear f D s t) (p : Bool) : (Dk.at' D.now (f p)).size = (bytesOf (s p)).length + (t p).length := by
  rw [← len_data, h.b, List.length_append]

/-- Behind a crash. -/
theorem Two.crash {f : Bool → Nat} {D : Dk.St} {s : Bool → List Rec} {l : List (Bool × Rec)} (h : Two f D s l) (a b : Int) :
    ∃ k t, k ≤ l.length ∧ Tear f (Dk.crash D a b) (fun p => s p ++ pick p (l.take k)) t ∧ ∀ p, (bytesOf (s p ++ pick p (l.take k))).length + (t p).length ≤ (bytesOf (s p ++ pick p l)).length := by
  have hok := Dk.crash_ok h.ok a b
  obtain ⟨c, hc⟩ : ∃ c, Dk.clip a D.loose.length = c := ⟨_, rfl⟩
  have hcl := Dk.clip_le a D.loose.length
  rw [hc, h.loose, List.length_map] at hcl
  have htk : D.loose.take c = (l.take c).map (app2 f) := by rw [h.loose, List.map_take]
  have hle : ∀ k p, (bytesOf (s p ++ pick p (l.take k))).length ≤ (bytesOf (s p ++ pick p l)).length := fun k p => by
    conv => rhs; rw [← List.take_append_drop k l]
    rw [pick_app, ← List.append_assoc, bytes_app (s p ++ pick p (l.take k)), List.length_append]
    omega
  have hgood : ∀ k p, ∀ r ∈ s p ++ pick p (l.take k), Good r := fun k p r hr => by
    rcases List.mem_append.1 hr with hr | hr
    · exact h.gs p r hr
    · obtain ⟨q, hq, rfl⟩ := pick_mem hr
      exact h.gl q (List.mem_of_mem_take hq)
  have hfl : (Dk.runs D.sure (D.loose.take c)).length = 16 := by rw [Dk.runs_len, h.ok.sureL]
  have hfb : ∀ p, (Dk.at' (Dk.runs D.sure (D.loose.take c)) (f p)).data.toList = bytesOf (s p ++ pick p (l.take c)) := fun p => by
    rw [htk, runs_app2 h.ne h.lt _ _ h.ok.sureL p, h.b, bytes_app]
  have hft : Dk.total (Dk.runs D.sure (D.loose.take c)) = (bytesOf (s false ++ pick false (l.take c))).length + (bytesOf (s true ++ pick true (l.take c))).length := by
    rw [htk, runs_total h.lt _ _ h.ok.sureL, h.tot, bytes_app, bytes_app, List.length_append, List.length_append]
    omega
  by_cases hlt : c < l.length
  · obtain ⟨q, hq⟩ : ∃ q, l[c]? = some q := ⟨l[c], by simp⟩
    have hsnoc : l.take (c + 1) = l.take c ++ [q] := by rw [List.take_add_one, hq]; rfl
    have hgq := h.gl q (List.mem_of_getElem? hq)
    have hk := Dk.clip_le b (frA q.2).size
    obtain ⟨k, hkk⟩ : ∃ k, Dk.clip b (frA q.2).size = k := ⟨_, rfl⟩
    rw [hkk, frA_size] at hk
    have hkept : Dk.kept D a b = Dk.part (f q.1) (frA q.2) k (Dk.runs D.sure (D.loose.take c)) := by
      unfold Dk.kept
      rw [hc, h.loose, List.getElem?_map, hq, ← h.loose]
      show Dk.tail (some (app2 f q)) b _ = _
      unfold app2
      show Dk.part (f q.1) (frA q.2) (Dk.clip b (frA q.2).size) _ = _
      rw [hkk]
    have hnow : (Dk.crash D a b).now = Dk.part (f q.1) (frA q.2) k (Dk.runs D.sure (D.loose.take c)) := hkept
    by_cases hkl : k < (frameB q.2).length
    · refine ⟨c, fun p => if q.1 = p then (frameB q.2).take k else [], by omega, ⟨hok, ⟨rfl, rfl⟩, rfl, rfl, h.ne, h.lt, fun p => ?_, fun p => ?_, hgood c, h.room, ?_⟩, fun p => ?_⟩
      · rw [hnow]
        by_cases hp : q.1 = p
        · subst hp
          rw [if_pos rfl]
          have : Dk.at' (Dk.part (f q.1) (frA q.2) k (Dk.runs D.sure (D.loose.take c))) (f q.1) = Dk.at' (Dk.runs D.sure (D.loose.take c)) (f q.1) ++ (frA q.2).extract 0 k := Dk.at_set_same _ _ _ (by have := h.lt q.1; omega)
          rw [this, ByteArray.data_append, Array.toList_append, hfb, Lib.extract_data]
          simp [frA]
        · rw [if_neg hp]
          have : Dk.at' (Dk.part (f q.1) (frA q.2) k (Dk.runs D.sure (D.loose.take c))) (f p) = Dk.at' (Dk.runs D.sure (D.loose.take c)) (f p) := Dk.at_set_ne _ _ _ _ (h.ne _ _ hp)
          rw [this, hfb, List.append_nil]
      · by_cases hp : q.1 = p
        · show (Cl.takeF (if q.1 = p then (frameB q.2).take k else [])).2.2.2 ≠ 0
          rw [if_pos hp]
          exact Cl.takeF_short q.2.kind q.2.text.data.toList hgq.1 (by rw [len_data]; exact hgq.2) k hkl
        · show (Cl.takeF (if q.1 = p then (frameB q.2).take k else [])).2.2.2 ≠ 0
          rw [if_neg hp]
          exact takeF_nil
      · rw [hnow, Dk.total_part _ _ _ _ (by have := h.lt q.1; omega) (by rw [frA_size]; exact hk), hft]
        obtain ⟨qp, qr⟩ := q
        cases qp <;> simp [List.length_take] <;> simp at hk <;> omega
      · have h1 := hle (c + 1) p
        rw [hsnoc, pick_app, ← List.append_assoc, bytes_app (s p ++ pick p (l.take c)), List.length_append] at h1
        by_cases hp : q.1 = p
        · subst hp
          obtain ⟨qp, qr⟩ := q
          rw [pick_same, bytes_one] at h1
          show _ + (if qp = qp then (frameB qr).take k else []).length ≤ _
          rw [if_pos rfl, List.length_take]
          simp only at h1 hk ⊢
          omega
        · show _ + (if q.1 = p then (frameB q.2).take k else []).length ≤ _
          rw [if_neg hp]
          simp only [List.length_nil]
          omega
    · have hkf : k = (frA q.2).size := by rw [frA_size]; omega
      have hrun : Dk.part (f q.1) (frA q.2) k (Dk.runs D.sure (D.loose.take c)) = Dk.runs D.sure ((l.take (c + 1)).map (app2 f)) := by
        rw [hkf, Dk.part_all, hsnoc, List.map_append, ← htk]
        exact (Dk.runs_snoc _ _ _).symm
      rw [hrun] at hnow
      refine ⟨c + 1, fun _ => [], by omega, ⟨hok, ⟨rfl, rfl⟩, rfl, rfl, h.ne, h.lt, fun p => ?_, fun _ => takeF_nil, hgood (c + 1), h.room, ?_⟩, fun p => by simpa using hle (c + 1) p⟩
      · rw [hnow, runs_app2 h.ne h.lt _ _ h.ok.sureL p, h.b, bytes_app, List.append_nil]
      · rw [hnow, runs_total h.lt _ _ h.ok.sureL, h.tot, bytes_app, bytes_app, List.length_append, List.length_append]
        simp only [List.length_nil]
        omega
  · have hce : l[c]? = none := by rw [List.getElem?_eq_none_iff]; omega
    have hnow : (Dk.crash D a b).now = Dk.runs D.sure (D.loose.take c) := by
      show Dk.kept D a b = _
      unfold Dk.kept
      rw [hc, h.loose, List.getElem?_map, hce]
      rfl
    refine ⟨c, fun _ => [], by omega, ⟨hok, ⟨rfl, rfl⟩, rfl, rfl, h.ne, h.lt, fun p => ?_, fun _ => takeF_nil, hgood c, h.room, ?_⟩, fun p => by simpa using hle c p⟩
    · rw [hnow, hfb, List.append_nil]
    · rw [hnow, hft]
      simp

/-- What Open of one of both files leaves. -/
theorem Tear.opens {f : Bool → Nat} {D : Dk.St} {s : Bool → List Rec} {t : Bool → List UInt8} (h : Tear f D s t) (p : Bool) (hsz : (bytesOf (s p)).length + (t p).length ≤ 1000000) :
    Opens D (f p) (opened D (f p)) (s p) ∧ Tear f (opened D (f p)) s (fun q => if q = p then [] else t q) := by
  have hp : parse (Dk.at' D.now (f p)) = s p := parse_bytes _ (h.gs p) (t p) (h.torn p) _ (h.b p)
  have hs := h.size p
  refine ⟨Opens.free h.free (f p) (h.lt p) (s p) (t p) (h.b p) hp (by omega) (by rw [h.loose]; decide), ?_⟩
  have hcode : opened D (f p) = if (bytesOf (s p)).length < (Dk.at' D.now (f p)).size then (Dk.sync (Dk.cut D (f p) (bytesOf (s p)).length).2).2 else D := by
    unfold opened
    rw [h.free.read (f p) (h.lt p), hp]
  by_cases hlt : (bytesOf (s p)).length < (Dk.at' D.now (f p)).size
  · have hok : Dk.Ok (opened D (f p)) := by
      rw [hcode, if_pos hlt]
      exact Dk.sync_ok (Dk.cut_ok h.ok _ _)
    have hF1 : Free { D with now := (Dk.Ch.cut (f p) (bytesOf (s p)).length).run D.now, loose := D.loose ++ [.cut (f p) (bytesOf (s p)).length] } := ⟨h.free.off, h.free.left⟩
    rw [hcode, if_pos hlt, h.free.cut (f p) _ (h.lt p) (by omega), hF1.sync] at hok ⊢
    have hlen := h.ok.nowL
    refine ⟨hok, ⟨h.free.off, h.free.left⟩, rfl, rfl, h.ne, h.lt, fun q => ?_, fun q => ?_, h.gs, h.room, ?_⟩
    · show (Dk.at' (D.now.set (f p) _) (f q)).data.toList = _
      by_cases hq : q = p
      · subst hq
        rw [if_pos rfl, Dk.at_set_same _ _ _ (by have := h.lt q; omega), Lib.extract_data, h.b]
        simp
      · rw [if_neg hq, Dk.at_set_ne _ _ _ _ (h.ne _ _ (Ne.symm hq)), h.b]
    · show (Cl.takeF (if q = p then [] else t q)).2.2.2 ≠ 0
      split
      · exact takeF_nil
      · exact h.torn q
    · have h1 := Dk.total_set D.now (f p) ((Dk.at' D.now (f p)).extract 0 (bytesOf (s p)).length) (by have := h.lt p; omega)
      rw [ByteArray.size_extract, h.tot] at h1
      show Dk.total (D.now.set (f p) ((Dk.at' D.now (f p)).extract 0 (bytesOf (s p)).length)) = _
      have h2 := h.size p
      cases p <;> simp <;> omega
  · rw [hcode, if_neg hlt]
    have ht0 : t p = [] := List.length_eq_zero_iff.1 (by omega)
    have : (fun q => if q = p then [] else t q) = t := by
      funext q
      split
      · rename_i e; rw [e, ht0]
      · rfl
    rw [this]
    exact h

/-- Both files, one behind the other. -/
theorem Tear.both {f : Bool → Nat} {D : Dk.St} {s : Bool → List Rec} {t : Bool → List UInt8} (h : Tear f D s t) (hsz : ∀ p, (bytesOf (s p)).length + (t p).length ≤ 1000000) :
    ∃ D1 D2, Opens D (f false) D1 (s false) ∧ Opens D1 (f true) D2 (s true) ∧ Tear f D2 s (fun _ => []) := by
  obtain ⟨h1, h2⟩ := h.opens false (hsz false)
  obtain ⟨h3, h4⟩ := h2.opens true (by have := hsz true; simpa using this)
  refine ⟨_, _, h1, h3, ?_⟩
  have : (fun q => if q = true then ([] : List UInt8) else (fun q => if q = false then [] else t q) q) = fun _ => [] := by
    funext q
    cases q <;> rfl
  rwa [this] at h4

end Lg
end Go.Proofs.Ytllecjhfbojgcaa
