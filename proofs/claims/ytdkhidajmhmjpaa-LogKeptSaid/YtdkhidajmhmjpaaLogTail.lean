/-
  LogKept from its crash on.
-/
import Derived.Test.YtdkhidajmhmjpaaRecRow
import Derived.Test.YtdkhidajmhmjpaaLogKeptP
import Derived.Deep.QuietTactic
import Derived.BigQuiet
namespace Go.Proofs.Ytdkhidajmhmjpaa
open Go.RowKit
set_option maxRecDepth 20000

/-- A disk, and blocks that are none of its. -/
def LvK (w0 w : World) (d : Nat) (D : Dk.St) (K : Nat → Prop) : Prop :=
  ∃ F, DiskAt w d D F ∧ (∀ k, F k → w0.heap.size ≤ k) ∧ Below w0.heap.size w0 w ∧ ∀ k, K k → k < w.heap.size ∧ ¬ F k

theorem LgK.disk {w0 w : World} {l d : Nat} {file : Int} {D : Dk.St} {L : Lg.St} {K : Nat → Prop} (h : LgK w0 w l d file D L K) : LvK w0 w d D K := by
  obtain ⟨F, G, h1, h2, h3, h4, h5, h6, h7⟩ := h
  exact ⟨F, h1, h4, h6, fun k hk => ⟨(h7 k hk).1, (h7 k hk).2.1⟩⟩
theorem LvK.live {w0 w : World} {d : Nat} {D : Dk.St} {K : Nat → Prop} (h : LvK w0 w d D K) : Live w0 w d D := by
  obtain ⟨F, h1, h4, h6, h7⟩ := h
  exact ⟨F, h1, h4, h6⟩
theorem LvK.below {w0 w w' : World} {d : Nat} {D : Dk.St} {K : Nat → Prop} (h : LvK w0 w d D K) (hb : Below w.heap.size w w') : LvK w0 w' d D K := by
  obtain ⟨F, h1, h4, h6, h7⟩ := h
  have hs := hb.size
  exact ⟨F, h1.below hb, h4, h6.trans (hb.mono h6.size), fun k hk => ⟨by have := (h7 k hk).1; omega, (h7 k hk).2⟩⟩

theorem lvk_crash {w0 w : World} {d : Nat} {D : Dk.St} {K : Nat → Prop} (h : LvK w0 w d D K) (a b : Int) :
    Calls Try.prog 18 #[ptr d 0, .int .i64 a, .int .i64 b] w fun e w' => e = .returned (.tuple #[]) ∧ LvK w0 w' d (Dk.crash D a b) K ∧ (∀ k, K k → w'.heap[k]? = w.heap[k]?) ∧ w.heap.size ≤ w'.heap.size := by
  obtain ⟨F, h1, h4, h6, h7⟩ := h
  refine (crash_any w d D F h1 a b).mono ?_
  rintro e w' ⟨rfl, ho, hd⟩
  have hs := ho.size
  exact ⟨rfl, ⟨F, hd, h4, h6.trans (ho.toBelow h6.size h4), fun k hk => ⟨by have := (h7 k hk).1; omega, (h7 k hk).2⟩⟩, fun k hk => ho.block k (h7 k hk).1 (h7 k hk).2, hs⟩

/-- What stands in the file: so many of the records, and maybe a beginning of one more. -/
structure Torn (D : Dk.St) (all : List Lg.Rec) (j : Nat) (t : List UInt8) : Prop where
  free : Lg.Free D
  same : D.sure = D.now
  loose : D.loose = []
  len : D.now.length = 16
  bytes : (Dk.at' D.now 2).data.toList = Lg.bytesOf (all.take j) ++ t
  torn : (Cl.takeF t).2.2.2 ≠ 0
  good : ∀ r ∈ all, Lg.Good r
  size : (Dk.at' D.now 2).size ≤ 1000000

theorem torn_crash {D : Dk.St} {all : List Lg.Rec} {sure : Nat} {o : Option Nat} (h : Lg.Kept D all sure o) (hok : Dk.Ok D) (hb : (Lg.bytesOf all).length ≤ 1000000) (a b : Int) :
    ∃ j t, Torn (Dk.crash D a b) all j t ∧ min sure (o.getD all.length) ≤ j ∧ j ≤ all.length := by
  obtain ⟨j, t, h1, h2, h3, h4, h5⟩ := h.crash hok a b
  refine ⟨j, t, ⟨⟨rfl, rfl⟩, rfl, rfl, (Dk.crash_ok hok a b).nowL, h1, h2, h.good, ?_⟩, h3, h4⟩
  rw [← len_data, h1]
  omega

theorem Torn.opened {D : Dk.St} {all : List Lg.Rec} {j : Nat} {t : List UInt8} (h : Torn D all j t) : Torn (Dk.crash (Lg.opened D 2) 0 0) all j [] := by
  have hp : Lg.parse (Dk.at' D.now 2) = all.take j := Lg.parse_bytes _ (fun r hr => h.good r (List.mem_of_mem_take hr)) t h.torn _ h.bytes
  have hop := Lg.opened_is h.free 2 (by decide) h.len _ t h.bytes hp
  rw [show ((2 : Nat) : Int) = 2 from rfl] at hop
  obtain ⟨h1, h2, h3, h4, h5, h6⟩ := hop
  obtain ⟨h7, h8⟩ := h5 h.same h.loose
  have hk : Dk.kept (Lg.opened D 2) 0 0 = (Lg.opened D 2).now := by
    unfold Dk.kept
    rw [h8, h7]
    rfl
  have hsz := h.size
  have hs : (Dk.at' D.now 2).size = (Lg.bytesOf (all.take j)).length + t.length := by rw [← len_data, h.bytes, List.length_append]
  have hlen : (Lg.opened D 2).now.length = 16 := by
    unfold Lg.opened
    have hr := h.free.read 2 (by decide)
    rw [show ((2 : Nat) : Int) = 2 from rfl] at hr
    rw [hr, hp]
    split
    · have hc := h.free.cut 2 (Lg.bytesOf (all.take j)).length (by decide) (by omega)
      rw [show ((2 : Nat) : Int) = 2 from rfl] at hc
      rw [hc]
      have hf : Lg.Free { D with now := (Dk.Ch.cut 2 (Lg.bytesOf (all.take j)).length).run D.now, loose := D.loose ++ [.cut 2 (Lg.bytesOf (all.take j)).length] } := ⟨h.free.off, h.free.left⟩
      rw [hf.sync]
      show ((Dk.Ch.cut 2 _).run D.now).length = 16
      rw [Dk.run_len, h.len]
    · exact h.len
  refine ⟨⟨rfl, rfl⟩, rfl, rfl, ?_, ?_, Lg.takeF_nil, h.good, ?_⟩
  · show (Dk.kept (Lg.opened D 2) 0 0).length = 16
    rw [hk, hlen]
  · show (Dk.at' (Dk.kept (Lg.opened D 2) 0 0) 2).data.toList = _
    rw [hk, List.append_nil]
    exact h3
  · show (Dk.at' (Dk.kept (Lg.opened D 2) 0 0) 2).size ≤ 1000000
    rw [hk, ← len_data, show (Dk.at' (Lg.opened D 2).now 2).data.toList = Lg.bytesOf (all.take j) from h3]
    omega

theorem lvk_open {w0 w : World} {d : Nat} {D : Dk.St} {K : Nat → Prop} (h : LvK w0 w d D K) {all : List Lg.Rec} {j : Nat} {t : List UInt8} (ht : Torn D all j t) :
    Calls Try.prog 9 #[ptr d 0, .int .i64 2] w fun e w' => ∃ l, e = .returned (.tuple #[ptr l 0, .int .i64 0]) ∧ LgK w0 w' l d 2 (Lg.opened D 2) ⟨all.take j, (all.take j).length⟩ K ∧ (∀ k, K k → w'.heap[k]? = w.heap[k]?) ∧ w.heap.size ≤ w'.heap.size := by
  obtain ⟨F, h1, h4, h6, h7⟩ := h
  have hp : Lg.parse (Dk.at' D.now 2) = all.take j := Lg.parse_bytes _ (fun r hr => ht.good r (List.mem_of_mem_take hr)) t ht.torn _ ht.bytes
  have hs : (Dk.at' D.now 2).size = (Lg.bytesOf (all.take j)).length + t.length := by rw [← len_data, ht.bytes, List.length_append]
  have hr : Dk.read D 2 = (Dk.at' D.now 2, 0) := ht.free.read 2 (by decide)
  have hc := ht.free.cut 2 (Lg.bytesOf (all.take j)).length (by decide) (by omega)
  rw [show ((2 : Nat) : Int) = 2 from rfl] at hc
  have hf : Lg.Free { D with now := (Dk.Ch.cut 2 (Lg.bytesOf (all.take j)).length).run D.now, loose := D.loose ++ [.cut 2 (Lg.bytesOf (all.take j)).length] } := ⟨ht.free.off, ht.free.left⟩
  have hz : (Dk.read D 2).1.size ≤ 1000000 := by rw [hr]; exact ht.size
  have := logopen_any w d D F h1 2 (by rw [hr]) hz (by rw [ht.loose]; decide) (by rw [hr]; show (Dk.cut D 2 ((Lg.bytesOf (Lg.parse (Dk.at' D.now 2))).length : Nat)).1 = 0; rw [hp, hc]) (by rw [hr]; show (Dk.sync (Dk.cut D 2 ((Lg.bytesOf (Lg.parse (Dk.at' D.now 2))).length : Nat)).2).1 = 0; rw [hp, hc, hf.sync])
  rw [hr] at this
  refine this.mono ?_
  rintro e w' ⟨l, rfl, hl, htu⟩
  have htu : Turned2 w w' l d 2 (Lg.opened D 2) ⟨Lg.parse (Dk.at' D.now 2), (Lg.parse (Dk.at' D.now 2)).length⟩ F (fun _ => False) := htu
  rw [hp] at htu
  obtain ⟨h8, h9⟩ := LgK.turned (K := K) h4 (fun _ h => h.elim) h6 (fun k hk => ⟨(h7 k hk).1, (h7 k hk).2, fun h => h⟩) htu
  obtain ⟨_, _, ho, -⟩ := htu
  exact ⟨l, rfl, h8, h9, ho.size⟩

end Go.Proofs.Ytdkhidajmhmjpaa
