/-
  What is on the disk while a log is written, and behind a crash, plainly.
-/
import Derived.Test.YtdkhidajmhmjpaaLogWorks
namespace Go.Proofs.Ytdkhidajmhmjpaa
namespace Lg

def appC (r : Rec) : Dk.Ch := .app 2 ⟨(frameB r).toArray⟩
def cutC (all : List Rec) : Option Nat → List Dk.Ch
  | none => []
  | some n => [.cut 2 (ends all n)]

/-- all: what was put; so many are sure; o: a cut that was begun. -/
structure Kept (D : Dk.St) (all : List Rec) (sure : Nat) (o : Option Nat) : Prop where
  bytes : (Dk.at' D.sure 2).data.toList = bytesOf (all.take sure)
  loose : D.loose = (all.drop sure).map appC ++ cutC all o
  le : sure ≤ all.length
  cut : ∀ n, o = some n → n < all.length
  good : ∀ r ∈ all, Good r

theorem Kept.same {D D' : Dk.St} {all : List Rec} {sure : Nat} {o : Option Nat} (h : Kept D all sure o) (h1 : D'.sure = D.sure) (h2 : D'.loose = D.loose) : Kept D' all sure o :=
  ⟨by rw [h1]; exact h.bytes, by rw [h2]; exact h.loose, h.le, h.cut, h.good⟩

theorem runs_apps (rs : List Rec) : ∀ (fs : Dk.Files), fs.length = 16 → (Dk.at' (Dk.runs fs (rs.map appC)) 2).data.toList = (Dk.at' fs 2).data.toList ++ bytesOf rs := by
  induction rs with
  | nil => intro fs _; simp [Dk.runs_nil, bytesOf]
  | cons r rs ih =>
    intro fs hf
    rw [List.map_cons, Dk.runs_cons, ih _ (by rw [Dk.run_len, hf])]
    have : Dk.at' ((appC r).run fs) 2 = Dk.at' fs 2 ++ ⟨(frameB r).toArray⟩ := Dk.at_set_same _ _ _ (by omega)
    rw [this]
    simp [bytesOf]

theorem Kept.now {D : Dk.St} {all : List Rec} {sure : Nat} (h : Kept D all sure none) (hok : Dk.Ok D) : (Dk.at' D.now 2).data.toList = bytesOf all := by
  have hl := h.loose
  rw [show cutC all none = [] from rfl, List.append_nil] at hl
  rw [hok.now, hl, runs_apps _ _ hok.sureL, h.bytes]
  unfold bytesOf
  rw [← List.flatMap_append, List.take_append_drop]

theorem change_kept {D : Dk.St} (c : Dk.Ch) : (Dk.change D c).2.sure = D.sure ∧ ((Dk.change D c).1 = 0 ∧ (Dk.change D c).2.loose = D.loose ++ [c] ∧ (Dk.change D c).2.now = c.run D.now ∨ (Dk.change D c).1 ≠ 0 ∧ (Dk.change D c).2.loose = D.loose) := by
  unfold Dk.change
  split
  · exact ⟨rfl, .inr ⟨by simp, rfl⟩⟩
  · exact ⟨rfl, .inl ⟨rfl, rfl, rfl⟩⟩
theorem append_kept {D : Dk.St} (s : ByteArray) : (Dk.append D 2 s).2.sure = D.sure ∧ ((Dk.append D 2 s).1 = 0 ∧ (Dk.append D 2 s).2.loose = D.loose ++ [.app 2 s] ∨ (Dk.append D 2 s).1 ≠ 0 ∧ (Dk.append D 2 s).2.loose = D.loose) := by
  unfold Dk.append
  split
  · rename_i h; exact ⟨rfl, .inr ⟨h, rfl⟩⟩
  · split
    · exact ⟨rfl, .inr ⟨by simp, rfl⟩⟩
    · obtain ⟨h1, h2⟩ := change_kept (D := D) (.app (2 : Int).toNat s)
      rcases h2 with ⟨h2, h3, -⟩ | h2
      · exact ⟨h1, .inl ⟨h2, h3⟩⟩
      · exact ⟨h1, .inr h2⟩
theorem cut_kept {D : Dk.St} (n : Nat) : (Dk.cut D 2 n).2.sure = D.sure ∧ ((Dk.cut D 2 n).1 = 0 ∧ (Dk.cut D 2 n).2.loose = D.loose ++ [.cut 2 n] ∧ (Dk.cut D 2 n).2.now = (Dk.Ch.cut 2 n).run D.now ∨ (Dk.cut D 2 n).1 ≠ 0 ∧ (Dk.cut D 2 n).2.loose = D.loose) := by
  unfold Dk.cut
  split
  · rename_i h; exact ⟨rfl, .inr ⟨h, rfl⟩⟩
  · split
    · exact ⟨rfl, .inr ⟨by simp, rfl⟩⟩
    · have := change_kept (D := D) (.cut (2 : Int).toNat (n : Int).toNat)
      rw [Int.toNat_natCast] at this
      exact this
theorem sync_kept (D : Dk.St) : (Dk.sync D).1 = 0 ∧ (Dk.sync D).2.sure = D.now ∧ (Dk.sync D).2.loose = [] ∨ (Dk.sync D).1 ≠ 0 ∧ (Dk.sync D).2.sure = D.sure ∧ (Dk.sync D).2.loose = D.loose := by
  unfold Dk.sync
  split
  · exact .inr ⟨by simp, rfl, rfl⟩
  · split
    · exact .inr ⟨by simp, rfl, rfl⟩
    · exact .inl ⟨rfl, rfl, rfl⟩

theorem Kept.put {D : Dk.St} {all : List Rec} {sure : Nat} (h : Kept D all sure none) (r : Rec) :
    (Lg.put D 2 ⟨all, sure⟩ r).1 = 0 ∧ (Lg.put D 2 ⟨all, sure⟩ r).2.2 = ⟨all ++ [r], sure⟩ ∧ Kept (Lg.put D 2 ⟨all, sure⟩ r).2.1 (all ++ [r]) sure none ∨
    (Lg.put D 2 ⟨all, sure⟩ r).1 ≠ 0 ∧ (Lg.put D 2 ⟨all, sure⟩ r).2.2 = ⟨all, sure⟩ ∧ Kept (Lg.put D 2 ⟨all, sure⟩ r).2.1 all sure none := by
  unfold Lg.put
  by_cases hp : putE r.kind r.text = 0
  · rw [if_neg (by simpa using hp)]
    obtain ⟨h1, h2⟩ := append_kept (D := D) ⟨(frameB r).toArray⟩
    rcases h2 with ⟨h2, h3⟩ | ⟨h2, h3⟩
    · rw [if_neg (by simpa using h2)]
      refine .inl ⟨rfl, rfl, ?_, ?_, by rw [List.length_append]; have := h.le; omega, (fun n hn => by cases hn), fun x hx => ?_⟩
      · show (Dk.at' (Dk.append D 2 _).2.sure 2).data.toList = _
        rw [h1, h.bytes, List.take_append_of_le_length h.le]
      · show (Dk.append D 2 _).2.loose = _
        rw [h3, h.loose, List.drop_append_of_le_length h.le]
        simp [cutC, appC]
      · rcases List.mem_append.1 hx with hx | hx
        · exact h.good x hx
        · rw [List.mem_singleton] at hx
          subst hx
          exact putE_good.1 hp
    · rw [if_pos h2]
      exact .inr ⟨h2, rfl, h.same h1 h3⟩
  · rw [if_pos hp]
    exact .inr ⟨hp, rfl, h⟩

theorem Kept.sync {D : Dk.St} {all : List Rec} {sure : Nat} (h : Kept D all sure none) (hok : Dk.Ok D) :
    (Lg.sync D ⟨all, sure⟩).1 = 0 ∧ (Lg.sync D ⟨all, sure⟩).2.2 = ⟨all, all.length⟩ ∧ Kept (Lg.sync D ⟨all, sure⟩).2.1 all all.length none ∨
    (Lg.sync D ⟨all, sure⟩).1 ≠ 0 ∧ (Lg.sync D ⟨all, sure⟩).2.2 = ⟨all, sure⟩ ∧ Kept (Lg.sync D ⟨all, sure⟩).2.1 all sure none := by
  unfold Lg.sync
  by_cases hs : sure = all.length
  · rw [if_pos hs]
    subst hs
    exact .inl ⟨rfl, rfl, h⟩
  · rw [if_neg hs]
    rcases sync_kept D with ⟨h1, h2, h3⟩ | ⟨h1, h2, h3⟩
    · rw [if_pos h1]
      refine .inl ⟨rfl, rfl, ?_, ?_, Nat.le_refl _, (fun n hn => by cases hn), h.good⟩
      · show (Dk.at' (Dk.sync D).2.sure 2).data.toList = _
        rw [h2, h.now hok, List.take_length]
      · show (Dk.sync D).2.loose = _
        rw [h3, List.drop_length]
        rfl
    · rw [if_neg h1]
      exact .inr ⟨h1, rfl, h.same h2 h3⟩

theorem Kept.doCut {D : Dk.St} {all : List Rec} {sure : Nat} (h : Kept D all sure none) (hok : Dk.Ok D) (n : Nat) (hn : n < all.length) :
    (Lg.cut D 2 ⟨all, sure⟩ n).1 = 0 ∧ (Lg.cut D 2 ⟨all, sure⟩ n).2.2 = ⟨all.take n, n⟩ ∧ Kept (Lg.cut D 2 ⟨all, sure⟩ n).2.1 (all.take n) n none ∨
    (Lg.cut D 2 ⟨all, sure⟩ n).1 ≠ 0 ∧ ((Lg.cut D 2 ⟨all, sure⟩ n).2.2.rs = all ∧ Kept (Lg.cut D 2 ⟨all, sure⟩ n).2.1 all sure none ∨ (Lg.cut D 2 ⟨all, sure⟩ n).2.2.rs = all.take n ∧ Kept (Lg.cut D 2 ⟨all, sure⟩ n).2.1 all sure (some n)) := by
  unfold Lg.cut
  rw [if_neg (by show ¬ ((n : Int) < 0 ∨ (all.length : Int) < (n : Int)); omega), if_neg (by show ¬ (n : Int) = (all.length : Int); omega), Int.toNat_natCast]
  obtain ⟨h1, h2⟩ := cut_kept (D := D) (ends all n)
  rcases h2 with ⟨h2, h3, h4⟩ | ⟨h2, h3⟩
  · rw [if_neg (by simpa using h2)]
    unfold cutDone
    obtain ⟨D1, hD1⟩ : ∃ D1, (Dk.cut D 2 (ends all n)).2 = D1 := ⟨_, rfl⟩
    simp only [hD1]
    rw [hD1] at h1 h3 h4
    rcases sync_kept D1 with ⟨g1, g2, g3⟩ | ⟨g1, g2, g3⟩
    · rw [if_pos g1]
      have hl : (all.take n).length = n := by rw [List.length_take]; omega
      refine .inl ⟨rfl, rfl, ?_, ?_, by omega, (fun m hm => by cases hm), fun x hx => h.good x (List.mem_of_mem_take hx)⟩
      · show (Dk.at' (Dk.sync D1).2.sure 2).data.toList = _
        rw [g2, h4]
        have : Dk.at' ((Dk.Ch.cut 2 (ends all n)).run D.now) 2 = (Dk.at' D.now 2).extract 0 (ends all n) := Dk.at_set_same _ _ _ (by rw [hok.nowL]; omega)
        rw [this, Lib.extract_data, h.now hok]
        simp only [List.drop_zero, Nat.sub_zero]
        rw [take_bytes, List.take_take, Nat.min_self]
      · show (Dk.sync D1).2.loose = _
        rw [g3, List.drop_of_length_le (by omega)]
        rfl
    · rw [if_neg g1]
      refine .inr ⟨g1, .inr ⟨rfl, ?_, ?_, h.le, fun m hm => by cases hm; exact hn, h.good⟩⟩
      · show (Dk.at' (Dk.sync D1).2.sure 2).data.toList = _
        rw [g2, h1, h.bytes]
      · show (Dk.sync D1).2.loose = _
        rw [g3, h3, h.loose]
        simp [cutC]
  · rw [if_pos h2]
    exact .inr ⟨h2, .inl ⟨rfl, h.same h1 h3⟩⟩

/-- Behind a crash: whole records, and maybe a beginning of one more. -/
theorem Kept.crash {D : Dk.St} {all : List Rec} {sure : Nat} {o : Option Nat} (h : Kept D all sure o) (hok : Dk.Ok D) (a b : Int) :
    ∃ j t, (Dk.at' (Dk.crash D a b).now 2).data.toList = bytesOf (all.take j) ++ t ∧ (Cl.takeF t).2.2.2 ≠ 0 ∧ min sure (o.getD all.length) ≤ j ∧ j ≤ all.length ∧ (bytesOf (all.take j) ++ t).length ≤ (bytesOf all).length := by
  show ∃ j t, (Dk.at' (Dk.kept D a b) 2).data.toList = _ ∧ _
  unfold Dk.kept
  obtain ⟨c, hc⟩ : ∃ c, Dk.clip a D.loose.length = c := ⟨_, rfl⟩
  have hcl := Dk.clip_le a D.loose.length
  rw [hc] at hcl ⊢
  have hml : ((all.drop sure).map appC).length = all.length - sure := by simp
  have hle := h.le
  have hco : (cutC all o).length ≤ 1 := by cases o <;> simp [cutC]
  have hnil : (Cl.takeF []).2.2.2 ≠ 0 := takeF_nil
  have hall : ∀ j, (bytesOf (all.take j) ++ []).length ≤ (bytesOf all).length := fun j => by rw [List.append_nil]; exact ends_le all j
  rw [h.loose, List.length_append, hml] at hcl
  by_cases hcm : c ≤ all.length - sure
  · have htk : D.loose.take c = ((all.drop sure).take c).map appC := by
      rw [h.loose, List.take_append_of_le_length (by rw [hml]; exact hcm), List.map_take]
    have hfs : (Dk.at' (Dk.runs D.sure (D.loose.take c)) 2).data.toList = bytesOf (all.take (sure + c)) := by
      rw [htk, runs_apps _ _ hok.sureL, h.bytes, List.take_add]
      simp [bytesOf]
    have hfl : (Dk.runs D.sure (D.loose.take c)).length = 16 := by rw [Dk.runs_len, hok.sureL]
    by_cases hlt : c < all.length - sure
    · obtain ⟨r, hr⟩ : ∃ r, all[sure + c]? = some r := ⟨all[sure + c]'(by omega), by simp⟩
      have hg : D.loose[c]? = some (appC r) := by
        rw [h.loose, List.getElem?_append_left (by rw [hml]; exact hlt), List.getElem?_map, List.getElem?_drop, hr]
        rfl
      rw [hg]
      have hpart : Dk.at' (Dk.tail (some (appC r)) b (Dk.runs D.sure (D.loose.take c))) 2 = Dk.at' (Dk.runs D.sure (D.loose.take c)) 2 ++ (⟨(frameB r).toArray⟩ : ByteArray).extract 0 (Dk.clip b (⟨(frameB r).toArray⟩ : ByteArray).size) := Dk.at_set_same _ _ _ (by omega)
      have hgood := h.good r (List.mem_of_getElem? hr)
      have hk := Dk.clip_le b (⟨(frameB r).toArray⟩ : ByteArray).size
      obtain ⟨k, hkk⟩ : ∃ k, Dk.clip b (⟨(frameB r).toArray⟩ : ByteArray).size = k := ⟨_, rfl⟩
      have hsz : (⟨(frameB r).toArray⟩ : ByteArray).size = (frameB r).length := List.size_toArray
      rw [hkk] at hpart hk
      rw [hsz] at hk
      have hsnoc : all.take (sure + c + 1) = all.take (sure + c) ++ [r] := by rw [List.take_add_one, hr]; rfl
      have hb1 : (bytesOf (all.take (sure + c + 1))).length ≤ (bytesOf all).length := ends_le all _
      have hb2 : bytesOf (all.take (sure + c + 1)) = bytesOf (all.take (sure + c)) ++ frameB r := by rw [hsnoc, bytes_snoc]
      have hdat : (Dk.at' (Dk.tail (some (appC r)) b (Dk.runs D.sure (D.loose.take c))) 2).data.toList = bytesOf (all.take (sure + c)) ++ (frameB r).take k := by
        rw [hpart, ByteArray.data_append, Array.toList_append, hfs, Lib.extract_data]
        simp
      by_cases hkl : k < (frameB r).length
      · refine ⟨sure + c, (frameB r).take k, hdat, Cl.takeF_short r.kind r.text.data.toList hgood.1 (by rw [len_data]; exact hgood.2) k hkl, by omega, by omega, ?_⟩
        rw [hb2, List.length_append] at hb1
        rw [List.length_append, List.length_take]
        omega
      · refine ⟨sure + c + 1, [], ?_, hnil, by omega, by omega, hall _⟩
        have htk2 : (frameB r).take k = frameB r := List.take_of_length_le (by omega)
        rw [hdat, htk2, hb2, List.append_nil]
    · have hcm2 : sure + c = all.length := by omega
      have hid : Dk.tail D.loose[c]? b (Dk.runs D.sure (D.loose.take c)) = Dk.runs D.sure (D.loose.take c) := by
        have : D.loose[c]? = (cutC all o)[0]? := by
          rw [h.loose, List.getElem?_append_right (by rw [hml]; omega), hml]
          congr 1
          omega
        rw [this]
        cases o with
        | none => rfl
        | some n => rfl
      rw [hid]
      refine ⟨all.length, [], ?_, hnil, by omega, Nat.le_refl _, hall _⟩
      rw [hfs, hcm2, List.append_nil]
  · cases o with
    | none => simp [cutC] at hcl; omega
    | some n =>
      have hn := h.cut n rfl
      have hc1 : c = all.length - sure + 1 := by
        have : (cutC all (some n)).length = 1 := rfl
        omega
      have htk : D.loose.take c = (all.drop sure).map appC ++ [.cut 2 (ends all n)] := by
        rw [h.loose, List.take_of_length_le (by rw [List.length_append, hml]; have : (cutC all (some n)).length = 1 := rfl; omega)]
        rfl
      have hg : D.loose[c]? = none := by
        rw [List.getElem?_eq_none_iff, h.loose, List.length_append, hml]
        have : (cutC all (some n)).length = 1 := rfl
        omega
      rw [hg, htk, Dk.runs_snoc]
      refine ⟨n, [], ?_, hnil, by simp; omega, by omega, hall _⟩
      have hfl : (Dk.runs D.sure ((all.drop sure).map appC)).length = 16 := by rw [Dk.runs_len, hok.sureL]
      have : Dk.at' (Dk.tail none b ((Dk.Ch.cut 2 (ends all n)).run (Dk.runs D.sure ((all.drop sure).map appC)))) 2 = (Dk.at' (Dk.runs D.sure ((all.drop sure).map appC)) 2).extract 0 (ends all n) := Dk.at_set_same _ _ _ (by omega)
      rw [this, Lib.extract_data, runs_apps _ _ hok.sureL, h.bytes]
      have hb : bytesOf (all.take sure) ++ bytesOf (all.drop sure) = bytesOf all := by unfold bytesOf; rw [← List.flatMap_append, List.take_append_drop]
      rw [hb]
      simp only [List.drop_zero, Nat.sub_zero, List.append_nil]
      exact take_bytes all n

end Lg
end Go.Proofs.Ytdkhidajmhmjpaa
