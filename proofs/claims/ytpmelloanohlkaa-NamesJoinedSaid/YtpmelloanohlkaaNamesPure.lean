/-
  Plain facts: a text without errors is its runes, encoded; words at the runes.
-/
import Derived.Test.YtpmelloanohlkaaNamesUtf
import Derived.Test.YtpmelloanohlkaaNamesTurn2
import Derived.Test.YtpmelloanohlkaaNamesWords
namespace Go.Proofs.Ytpmelloanohlkaa
open Go.RowKit

namespace Cl
def okR (r : Nat) : Prop := r < 55296 ∨ (57344 ≤ r ∧ r ≤ 1114111)
def enc (r : Nat) : List UInt8 := Lib.encodeRune (r : Int)
def encs (l : List Nat) : List UInt8 := l.flatMap enc
def encB (l : List Nat) : ByteArray := ⟨(encs l).toArray⟩

theorem encs_nil : encs [] = [] := rfl
theorem encs_cons (r : Nat) (l : List Nat) : encs (r :: l) = enc r ++ encs l := by simp [encs]
theorem encs_append (a b : List Nat) : encs (a ++ b) = encs a ++ encs b := by simp [encs]
theorem encs_one (r : Nat) : encs [r] = enc r := by simp [encs]

theorem enc_shape (r : Nat) (h : okR r) :
    (r < 128 ∧ enc r = [UInt8.ofNat r]) ∨
    (128 ≤ r ∧ r < 2048 ∧ enc r = [UInt8.ofNat (192 + r / 64), UInt8.ofNat (128 + r % 64)]) ∨
    (2048 ≤ r ∧ r < 65536 ∧ (r < 55296 ∨ 57344 ≤ r) ∧ enc r = [UInt8.ofNat (224 + r / 4096), UInt8.ofNat (128 + r / 64 % 64), UInt8.ofNat (128 + r % 64)]) ∨
    (65536 ≤ r ∧ r ≤ 1114111 ∧ enc r = [UInt8.ofNat (240 + r / 262144), UInt8.ofNat (128 + r / 4096 % 64), UInt8.ofNat (128 + r / 64 % 64), UInt8.ofNat (128 + r % 64)]) := by
  unfold okR at h
  unfold enc Lib.encodeRune
  by_cases h1 : r < 128
  · left
    refine ⟨h1, ?_⟩
    rw [Lib.encodeRuneZ_one (by omega) (by omega)]
    simp only [List.map_cons, List.map_nil, ← byte_nat]
  · right
    by_cases h2 : r < 2048
    · left
      refine ⟨by omega, h2, ?_⟩
      rw [Lib.encodeRuneZ_two (by omega) (by omega), show (192 : Int) + (r : Int) / 64 = ((192 + r / 64 : Nat) : Int) by omega, show (128 : Int) + (r : Int) % 64 = ((128 + r % 64 : Nat) : Int) by omega]
      simp only [List.map_cons, List.map_nil, ← byte_nat]
    · right
      by_cases h3 : r < 65536
      · left
        refine ⟨by omega, h3, by omega, ?_⟩
        rw [Lib.encodeRuneZ_three (by omega), show (224 : Int) + (r : Int) / 4096 = ((224 + r / 4096 : Nat) : Int) by omega, show (128 : Int) + (r : Int) / 64 % 64 = ((128 + r / 64 % 64 : Nat) : Int) by omega, show (128 : Int) + (r : Int) % 64 = ((128 + r % 64 : Nat) : Int) by omega]
        simp only [List.map_cons, List.map_nil, ← byte_nat]
      · right
        refine ⟨by omega, by omega, ?_⟩
        rw [Lib.encodeRuneZ_four (by omega) (by omega), show (240 : Int) + (r : Int) / 262144 = ((240 + r / 262144 : Nat) : Int) by omega, show (128 : Int) + (r : Int) / 4096 % 64 = ((128 + r / 4096 % 64 : Nat) : Int) by omega, show (128 : Int) + (r : Int) / 64 % 64 = ((128 + r / 64 % 64 : Nat) : Int) by omega, show (128 : Int) + (r : Int) % 64 = ((128 + r % 64 : Nat) : Int) by omega]
        simp only [List.map_cons, List.map_nil, ← byte_nat]

theorem toNat_of (x : Nat) (h : x < 256) : (UInt8.ofNat x).toNat = x := by rw [UInt8.toNat_ofNat']; omega

theorem enc_len (r : Nat) (h : okR r) : 1 ≤ (enc r).length ∧ (enc r).length ≤ 4 := by
  rcases enc_shape r h with ⟨_, e⟩ | ⟨_, _, e⟩ | ⟨_, _, _, e⟩ | ⟨_, _, e⟩ <;> rw [e] <;> simp

theorem dec_enc (r : Nat) (h : okR r) (t : List UInt8) : Lib.decodeL (enc r ++ t) = (r, (enc r).length) := by
  have q1 : r / 4096 = r / 64 / 64 := by rw [Nat.div_div_eq_div_mul]
  have q2 : r / 262144 = r / 64 / 64 / 64 := by rw [Nat.div_div_eq_div_mul, Nat.div_div_eq_div_mul]
  rw [Lib.decodeL_N]
  rcases enc_shape r h with ⟨h1, e⟩ | ⟨h1, h2, e⟩ | ⟨h1, h2, h3, e⟩ | ⟨h1, h2, e⟩
  · rw [e]
    simp only [List.cons_append, List.nil_append, List.getD_cons_zero, List.length_cons, List.length_nil]
    rw [toNat_of r (by omega), Lib.decodeN_ascii _ _ _ _ _ h1]
  · rw [e]
    simp only [List.cons_append, List.nil_append, List.getD_cons_zero, List.getD_cons_succ, List.length_cons, List.length_nil]
    rw [toNat_of (192 + r / 64) (by omega), toNat_of (128 + r % 64) (by omega)]
    unfold Lib.decodeN
    repeat' split
    all_goals first | (exfalso; omega) | (refine Prod.ext ?_ rfl; dsimp only; omega)
  · rw [e]
    simp only [List.cons_append, List.nil_append, List.getD_cons_zero, List.getD_cons_succ, List.length_cons, List.length_nil]
    rw [toNat_of (224 + r / 4096) (by omega), toNat_of (128 + r / 64 % 64) (by omega), toNat_of (128 + r % 64) (by omega)]
    unfold Lib.decodeN
    repeat' split
    all_goals first | (exfalso; omega) | (refine Prod.ext ?_ rfl; dsimp only; omega)
  · rw [e]
    simp only [List.cons_append, List.nil_append, List.getD_cons_zero, List.getD_cons_succ, List.length_cons, List.length_nil]
    rw [toNat_of (240 + r / 262144) (by omega), toNat_of (128 + r / 4096 % 64) (by omega), toNat_of (128 + r / 64 % 64) (by omega), toNat_of (128 + r % 64) (by omega)]
    unfold Lib.decodeN
    repeat' split
    all_goals first | (exfalso; omega) | (refine Prod.ext ?_ rfl; dsimp only; omega)

theorem dec_ok (l : List UInt8) : okR (Lib.decodeL l).1 := by
  rw [Lib.decodeL_N]
  unfold okR
  have k0 := (l.getD 0 0).toNat_lt
  rcases Lib.decodeN_shape l.length (l.getD 0 0).toNat (l.getD 1 0).toNat (l.getD 2 0).toNat (l.getD 3 0).toNat with ⟨c, e⟩ | ⟨c1, c2, c3, cv, e⟩ | ⟨c1, c2, c3, c4, cv, cs, e⟩ | ⟨c1, c2, c3, c4, c5, cv, cw, e⟩ | e
  all_goals (rw [e]; dsimp only; omega)

/-- A byte of a rune's is the rune, or 128 at least. -/
theorem enc_bytes (r : Nat) (h : okR r) : (r < 128 ∧ enc r = [UInt8.ofNat r]) ∨ (128 ≤ r ∧ ∀ b ∈ enc r, 128 ≤ b.toNat) := by
  rcases enc_shape r h with ⟨h1, e⟩ | ⟨h1, h2, e⟩ | ⟨h1, h2, h3, e⟩ | ⟨h1, h2, e⟩
  · exact .inl ⟨h1, e⟩
  · refine .inr ⟨h1, ?_⟩
    rw [e]
    simp only [List.mem_cons, List.not_mem_nil, or_false]
    rintro b (rfl | rfl)
    all_goals (rw [toNat_of _ (by omega)]; omega)
  · refine .inr ⟨by omega, ?_⟩
    rw [e]
    simp only [List.mem_cons, List.not_mem_nil, or_false]
    rintro b (rfl | rfl | rfl)
    all_goals (rw [toNat_of _ (by omega)]; omega)
  · refine .inr ⟨by omega, ?_⟩
    rw [e]
    simp only [List.mem_cons, List.not_mem_nil, or_false]
    rintro b (rfl | rfl | rfl | rfl)
    all_goals (rw [toNat_of _ (by omega)]; omega)

/-! ### the runes of a text -/
def rsF : Nat → List UInt8 → List Nat
  | 0, _ => []
  | f + 1, l => if l = [] then [] else (Lib.decodeL l).1 :: rsF f (l.drop (Lib.decodeL l).2)

theorem rsF_nil (f : Nat) : rsF f [] = [] := by cases f <;> simp [rsF]

theorem runesFrom_snd (s : ByteArray) (f : Nat) : ∀ pos, (runesFrom s f pos).map Prod.snd = rsF f (s.data.toList.drop pos) := by
  induction f with
  | zero => intro pos; rfl
  | succ f ih =>
    intro pos
    have hsz : s.size = s.data.toList.length := by simp
    by_cases hp : pos < s.size
    · rw [runesFrom_step s f pos hp]
      have hne : s.data.toList.drop pos ≠ [] := by
        intro e
        have := congrArg List.length e
        rw [List.length_drop] at this
        simp only [List.length_nil] at this
        omega
      simp only [rsF, if_neg hne, List.map_cons, Lib.decodeL_drop, List.drop_drop, ih]
    · rw [runesFrom_end s _ pos hp, List.drop_eq_nil_of_le (by omega), rsF_nil]
      rfl

theorem rsF_encs (rs : List Nat) : (∀ r ∈ rs, okR r) → ∀ f, (encs rs).length ≤ f → rsF f (encs rs) = rs := by
  induction rs with
  | nil => intro _ f _; rw [encs_nil, rsF_nil]
  | cons r rs ih =>
    intro h f hf
    have hr := h r (by simp)
    have hl := enc_len r hr
    rw [encs_cons, List.length_append] at hf
    obtain ⟨g, rfl⟩ : ∃ g, f = g + 1 := ⟨f - 1, by omega⟩
    have hne : enc r ++ encs rs ≠ [] := by
      intro e
      have := congrArg List.length e
      rw [List.length_append] at this
      simp only [List.length_nil] at this
      omega
    rw [encs_cons]
    unfold rsF
    rw [if_neg hne, dec_enc r hr]
    simp only [List.drop_left]
    rw [ih (fun x hx => h x (by simp [hx])) g (by omega)]

theorem encs_rsF (f : Nat) : ∀ l : List UInt8, l.length ≤ f → 65533 ∉ rsF f l → encs (rsF f l) = l := by
  induction f with
  | zero =>
    intro l hl _
    obtain rfl : l = [] := List.eq_nil_of_length_eq_zero (by omega)
    rfl
  | succ f ih =>
    intro l hl h
    by_cases hne : l = []
    · subst hne; rw [rsF_nil]; rfl
    · have hw := Lib.decodeL_width l
      simp only [rsF, if_neg hne, List.mem_cons, not_or] at h ⊢
      rw [encs_cons, ih _ (by rw [List.length_drop]; omega) h.2]
      unfold enc
      rw [Lib.encode_decode l hne (fun hc => h.1 hc.1.symm), List.take_append_drop]

theorem rsF_ok (f : Nat) : ∀ l : List UInt8, ∀ r ∈ rsF f l, okR r := by
  induction f with
  | zero => intro l r hr; simp [rsF] at hr
  | succ f ih =>
    intro l r hr
    by_cases hne : l = []
    · subst hne; rw [rsF_nil] at hr; simp at hr
    · simp only [rsF, if_neg hne, List.mem_cons] at hr
      rcases hr with rfl | hr
      · exact dec_ok l
      · exact ih _ r hr

def rs (s : ByteArray) : List Nat := (runes s).map Prod.snd
theorem rs_eq (s : ByteArray) : rs s = rsF s.size s.data.toList := by
  unfold rs runes
  rw [runesFrom_snd, List.drop_zero]
theorem rs_len (s : ByteArray) : (rs s).length = (runes s).length := by simp [rs]
theorem rs_ok (s : ByteArray) : ∀ r ∈ rs s, okR r := by rw [rs_eq]; exact rsF_ok _ _
theorem rs_enc (s : ByteArray) (h : 65533 ∉ rs s) : encs (rs s) = s.data.toList := by
  rw [rs_eq] at h ⊢
  exact encs_rsF _ _ (by simp) h
theorem rs_encB (s : ByteArray) (h : 65533 ∉ rs s) : encB (rs s) = s := by
  unfold encB; rw [rs_enc s h]
theorem rs_of (l : List Nat) (h : ∀ r ∈ l, okR r) : rs (encB l) = l := by
  rw [rs_eq]
  exact rsF_encs l h _ (by simp [encB, ByteArray.size])

/-! ### names -/
def nameR (l : List Nat) : Bool := decide (0 < l.length) && decide (l.length ≤ 24) && (match l with | [] => false | x :: _ => letter x) && l.all (fun x => later x)
theorem name_rs (s : ByteArray) : name s = nameR (rs s) := by
  unfold name nameR rs
  cases runes s with
  | nil => simp
  | cons x l => simp [List.all_map, Function.comp_def]

theorem name_none (s : ByteArray) (h : name s = true) : 65533 ∉ rs s := by
  rw [name_rs] at h
  unfold nameR at h
  simp only [Bool.and_eq_true, List.all_eq_true] at h
  intro hm
  exact absurd (h.2 _ hm) (by decide)

theorem encode_enc (r : Nat) : (Utf8.encode (r : Int)).data.toList = enc r := encode_list r

theorem turn_encs (l : List (Nat × Nat)) : (turn l).data.toList = encs (l.map Prod.snd).reverse := by
  induction l with
  | nil => rfl
  | cons x l ih =>
    rw [turn_cons]
    simp only [List.map_cons, List.reverse_cons, encs_append, encs_one, ← ih, ← encode_enc]
    simp

theorem turn_is (s : ByteArray) : turn (runes s) = encB (rs s).reverse := by
  apply ByteArray.ext
  apply Array.toList_inj.1
  rw [turn_encs]
  rfl

/-! ### words -/
def blank (r : Nat) : Bool := decide (r = 32 ∨ r = 9)
def splitR : List Nat → List Nat → List (List Nat)
  | [], cur => if cur = [] then [] else [cur]
  | r :: l, cur => if blank r = true then (if cur = [] then splitR l [] else cur :: splitR l []) else splitR l (cur ++ [r])

theorem words_none (s : ByteArray) (l : List (Nat × Nat)) : ∀ out q, l.any (fun x => bad x.2) = true → words s l out q = none := by
  induction l with
  | nil => intro out q h; simp at h
  | cons x l ih =>
    obtain ⟨p, r⟩ := x
    intro out q h
    simp only [List.any_cons, Bool.or_eq_true] at h
    unfold words
    by_cases hb : bad r = true
    · rw [if_pos hb]
    · rw [if_neg hb]
      have h2 : l.any (fun x => bad x.2) = true := by
        rcases h with h | h
        · exact absurd h hb
        · exact h
      split
      · exact ih _ _ h2
      · exact ih _ _ h2

theorem extract_encs (s : ByteArray) (a b c : List UInt8) (h : s.data.toList = a ++ b ++ c) (p q : Nat) (hp : p = a.length) (hq : q = (a ++ b).length) : s.extract p q = ⟨b.toArray⟩ := by
  apply ByteArray.ext
  apply Array.toList_inj.1
  rw [Lib.extract_data, h]
  subst hp; subst hq
  rw [List.append_assoc, List.drop_left, List.length_append, Nat.add_sub_cancel_left, List.take_left]

theorem words_split (s : ByteArray) (h : 65533 ∉ rs s) (rest : List Nat) : ∀ (pre cur : List Nat) (out : List ByteArray) (q : Int) (f : Nat),
    rs s = pre ++ cur ++ rest → rest.any bad = false → (cur = [] ∧ q = -1 ∨ cur ≠ [] ∧ q = ((encs pre).length : Int)) → s.size ≤ (encs (pre ++ cur)).length + f →
    words s (runesFrom s f (encs (pre ++ cur)).length) out q = some (out ++ (splitR rest cur).map encB) := by
  have hS := rs_enc s h
  have hsz : s.size = s.data.toList.length := by simp
  induction rest with
  | nil =>
    intro pre cur out q f hr _ hq hf
    rw [hr, List.append_nil] at hS
    have hend : ¬ (encs (pre ++ cur)).length < s.size := by rw [hsz, ← hS]; omega
    rw [runesFrom_end s f _ hend]
    unfold words splitR
    rcases hq with ⟨rfl, rfl⟩ | ⟨hc, rfl⟩
    · simp
    · rw [if_pos (by omega), if_neg hc, Int.toNat_natCast, extract_encs s (encs pre) (encs cur) [] (by rw [← hS, encs_append, List.append_nil]) _ s.size rfl (by rw [hsz, ← hS, encs_append])]
      simp [encB]
  | cons r rest ih =>
    intro pre cur out q f hr hbad hq hf
    simp only [List.any_cons, Bool.or_eq_false_iff] at hbad
    obtain ⟨hb, hbad⟩ := hbad
    have hrok : okR r := rs_ok s r (by rw [hr]; simp)
    have hlen := enc_len r hrok
    have hS2 : s.data.toList = encs (pre ++ cur) ++ (enc r ++ encs rest) := by
      rw [← hS, hr, encs_append, encs_cons]
    have hp : (encs (pre ++ cur)).length < s.size := by
      rw [hsz, hS2]; simp only [List.length_append]; omega
    obtain ⟨g, rfl⟩ : ∃ g, f = g + 1 := ⟨f - 1, by omega⟩
    have hdec : Utf8.decode s (encs (pre ++ cur)).length = (r, (enc r).length) := by
      rw [← Lib.decodeL_drop, hS2, List.drop_left, dec_enc r hrok]
    rw [runesFrom_step s g _ hp, hdec]
    have hbad' : ¬ bad r = true := by rw [hb]; simp
    unfold words splitR
    simp only
    rw [if_neg hbad']
    by_cases hbl : r = 32 ∨ r = 9
    · rw [if_pos hbl, if_pos (show blank r = true by unfold blank; simp [hbl])]
      have hpos : (encs (pre ++ cur)).length + (enc r).length = (encs ((pre ++ cur ++ [r]) ++ [])).length := by
        rw [List.append_nil, encs_append (pre ++ cur) [r], encs_one, List.length_append]
      rw [hpos]
      rcases hq with ⟨rfl, rfl⟩ | ⟨hc, rfl⟩
      · rw [if_neg (by omega), if_pos rfl]
        exact ih (pre ++ [] ++ [r]) [] out (-1) g (by rw [hr]; simp) hbad (.inl ⟨rfl, rfl⟩) (by rw [← hpos]; omega)
      · rw [if_pos (by omega), if_neg hc, Int.toNat_natCast, extract_encs s (encs pre) (encs cur) (enc r ++ encs rest) (by rw [hS2, encs_append]) _ _ rfl (by rw [encs_append])]
        rw [ih (pre ++ cur ++ [r]) [] _ (-1) g (by rw [hr]; simp) hbad (.inl ⟨rfl, rfl⟩) (by rw [← hpos]; omega)]
        simp [encB]
    · rw [if_neg hbl, if_neg (show ¬ blank r = true by unfold blank; simp; omega)]
      have hpos : (encs (pre ++ cur)).length + (enc r).length = (encs (pre ++ (cur ++ [r]))).length := by
        rw [← List.append_assoc, encs_append (pre ++ cur) [r], encs_one, List.length_append]
      rw [hpos]
      refine ih pre (cur ++ [r]) out _ g (by rw [hr]; simp) hbad (.inr ⟨by simp, ?_⟩) (by rw [← hpos]; omega)
      rcases hq with ⟨rfl, rfl⟩ | ⟨hc, rfl⟩
      · rw [if_pos (by omega), List.append_nil]
      · rw [if_neg (by omega)]

theorem bad_65533 (l : List Nat) (h : l.any bad = false) : 65533 ∉ l := by
  intro hm
  rw [List.any_eq_false] at h
  exact absurd (show bad 65533 = true by decide) (h _ hm)

theorem wordsR_is (s : ByteArray) : wordsR s = if 400 < s.size then ([], 3) else if (rs s).any bad = true then ([], 10) else ((splitR (rs s) []).map encB, 0) := by
  unfold wordsR
  split
  · rfl
  · by_cases hb : (rs s).any bad = true
    · rw [if_pos hb, words_none s _ _ _ (by unfold rs at hb; rw [List.any_map] at hb; exact hb)]
    · rw [if_neg hb]
      have hb' : (rs s).any bad = false := by simpa using hb
      have := words_split s (bad_65533 _ hb') (rs s) [] [] [] (-1) s.size (by simp) hb' (.inl ⟨rfl, rfl⟩) (by omega)
      have e : (encs ([] ++ [])).length = 0 := rfl
      rw [e] at this
      unfold runes
      rw [this]
      simp

/-! ### byte by byte -/
def blankB (b : UInt8) : Bool := decide (b.toNat = 32 ∨ b.toNat = 9)
def bw : List UInt8 → List ByteArray → List UInt8 → List ByteArray
  | [], out, word => if word = [] then out else out ++ [⟨word.toArray⟩]
  | b :: l, out, word => if blankB b = true then bw l (if word = [] then out else out ++ [⟨word.toArray⟩]) [] else bw l out (word ++ [b])

theorem bw_plain (a l : List UInt8) : ∀ out word, (∀ b ∈ a, blankB b = false) → bw (a ++ l) out word = bw l out (word ++ a) := by
  induction a with
  | nil => intro out word _; simp
  | cons b a ih =>
    intro out word h
    rw [List.cons_append]
    conv => lhs; unfold bw
    rw [if_neg (by rw [h b (by simp)]; simp), ih _ _ (fun x hx => h x (by simp [hx]))]
    simp

theorem encs_eq_nil (l : List Nat) (h : ∀ r ∈ l, okR r) : encs l = [] ↔ l = [] := by
  cases l with
  | nil => simp [encs_nil]
  | cons r l =>
    have := (enc_len r (h r (by simp))).1
    rw [encs_cons]
    simp
    intro e
    rw [e] at this
    simp at this

theorem bw_encs (rest : List Nat) : ∀ (cur : List Nat) (out : List ByteArray), (∀ r ∈ rest, okR r) → (∀ r ∈ cur, okR r) → bw (encs rest) out (encs cur) = out ++ (splitR rest cur).map encB := by
  induction rest with
  | nil =>
    intro cur out _ hc
    have he := encs_eq_nil cur hc
    unfold splitR bw encs
    simp only [List.flatMap_nil]
    change (if encs cur = [] then out else _) = _
    by_cases h0 : cur = []
    · rw [if_pos (he.2 h0), if_pos h0]; simp
    · rw [if_neg (fun e => h0 (he.1 e)), if_neg h0]; simp [encB, encs]
  | cons r rest ih =>
    intro cur out hr hc
    have he := encs_eq_nil cur hc
    have hok := hr r (by simp)
    have hrest : ∀ x ∈ rest, okR x := fun x hx => hr x (by simp [hx])
    rw [encs_cons]
    unfold splitR
    by_cases hbl : r = 32 ∨ r = 9
    · have hbl' : blank r = true := by unfold blank; simp [hbl]
      rw [if_pos hbl']
      have e1 : enc r = [UInt8.ofNat r] := by
        rcases enc_bytes r hok with h | h
        · exact h.2
        · omega
      have hbb : blankB (UInt8.ofNat r) = true := by unfold blankB; rw [toNat_of r (by omega)]; simp [hbl]
      rw [e1, List.cons_append, List.nil_append]
      unfold bw
      rw [if_pos hbb]
      have ih' := fun o => ih [] o hrest (by simp)
      rw [encs_nil] at ih'
      rw [ih']
      by_cases h0 : cur = []
      · rw [if_pos (he.2 h0), if_pos h0]
      · rw [if_neg (fun e => h0 (he.1 e)), if_neg h0]
        simp [encB]
    · have hbl' : ¬ blank r = true := by unfold blank; simp; omega
      rw [if_neg hbl', bw_plain (enc r) _ _ _ ?_, ← encs_one r, ← encs_append, ih _ _ hrest]
      · intro x hx
        simp only [List.mem_append, List.mem_cons, List.not_mem_nil, or_false] at hx
        rcases hx with hx | rfl
        · exact hc x hx
        · exact hok
      · intro b hb
        unfold blankB
        rcases enc_bytes r hok with ⟨h1, h2⟩ | ⟨_, h2⟩
        · rw [h2] at hb
          simp only [List.mem_cons, List.not_mem_nil, or_false] at hb
          subst hb
          rw [toNat_of r (by omega)]
          simp; omega
        · have := h2 b hb
          simp; omega

theorem wordsR_bytes (s : ByteArray) : wordsR s = if 400 < s.size then ([], 3) else if (rs s).any bad = true then ([], 10) else (bw s.data.toList [] [], 0) := by
  rw [wordsR_is]
  split
  · rfl
  · split
    · rfl
    · rename_i hb
      have hb' : (rs s).any bad = false := by simpa using hb
      have := bw_encs (rs s) [] [] (rs_ok s) (by simp)
      rw [encs_nil, rs_enc s (bad_65533 _ hb')] at this
      rw [this]
      simp

/-! ### words, put together -/
def plainW (w : List Nat) : Prop := w ≠ [] ∧ ∀ r ∈ w, blank r = false

theorem splitR_plain (w l : List Nat) : ∀ cur, (∀ r ∈ w, blank r = false) → splitR (w ++ l) cur = splitR l (cur ++ w) := by
  induction w with
  | nil => intro cur _; simp
  | cons r w ih =>
    intro cur h
    rw [List.cons_append]
    conv => lhs; unfold splitR
    rw [if_neg (by rw [h r (by simp)]; simp), ih _ (fun x hx => h x (by simp [hx]))]
    simp

theorem splitR_words (l : List Nat) : ∀ cur, (∀ r ∈ cur, blank r = false) → ∀ w ∈ splitR l cur, plainW w := by
  induction l with
  | nil =>
    intro cur hc w hw
    unfold splitR at hw
    split at hw
    · simp at hw
    · simp at hw; subst hw; exact ⟨by assumption, hc⟩
  | cons r l ih =>
    intro cur hc w hw
    unfold splitR at hw
    split at hw
    · split at hw
      · exact ih [] (by simp) w hw
      · simp only [List.mem_cons] at hw
        rcases hw with rfl | hw
        · exact ⟨by assumption, hc⟩
        · exact ih [] (by simp) w hw
    · rename_i hb
      refine ih (cur ++ [r]) ?_ w hw
      intro x hx
      simp only [List.mem_append, List.mem_cons, List.not_mem_nil, or_false] at hx
      rcases hx with hx | rfl
      · exact hc x hx
      · simpa using hb

theorem splitR_mem (l : List Nat) : ∀ cur w x, w ∈ splitR l cur → x ∈ w → x ∈ l ∨ x ∈ cur := by
  induction l with
  | nil =>
    intro cur w x hw hx
    unfold splitR at hw
    split at hw
    · simp at hw
    · simp at hw; subst hw; exact .inr hx
  | cons r l ih =>
    intro cur w x hw hx
    unfold splitR at hw
    split at hw
    · split at hw
      · rcases ih [] w x hw hx with h | h
        · exact .inl (by simp [h])
        · simp at h
      · simp only [List.mem_cons] at hw
        rcases hw with rfl | hw
        · exact .inr hx
        · rcases ih [] w x hw hx with h | h
          · exact .inl (by simp [h])
          · simp at h
    · rcases ih (cur ++ [r]) w x hw hx with h | h
      · exact .inl (by simp [h])
      · simp only [List.mem_append, List.mem_cons, List.not_mem_nil, or_false] at h
        rcases h with h | rfl
        · exact .inr h
        · exact .inl (by simp)

theorem splitR_blanks (k : Nat) (l : List Nat) : splitR (List.replicate k 32 ++ l) [] = splitR l [] := by
  induction k with
  | zero => simp
  | succ k ih =>
    rw [List.replicate_succ, List.cons_append]
    conv => lhs; unfold splitR
    rw [if_pos (by decide), if_pos rfl, ih]

/-- Words with so many blanks between them. -/
def joinR (k : Nat) : List (List Nat) → List Nat
  | [] => []
  | [w] => w
  | w :: v :: l => w ++ List.replicate k 32 ++ joinR k (v :: l)

theorem splitR_join (k : Nat) (hk : 1 ≤ k) (ws : List (List Nat)) : (∀ w ∈ ws, plainW w) → splitR (joinR k ws) [] = ws := by
  induction ws with
  | nil => intro _; rfl
  | cons w ws ih =>
    intro h
    have hw := h w (by simp)
    cases ws with
    | nil =>
      show splitR w [] = [w]
      have := splitR_plain w [] [] hw.2
      rw [List.append_nil, List.nil_append] at this
      rw [this]
      unfold splitR
      rw [if_neg hw.1]
    | cons v l =>
      show splitR (w ++ List.replicate k 32 ++ joinR k (v :: l)) [] = _
      rw [List.append_assoc, splitR_plain w _ [] hw.2, List.nil_append]
      obtain ⟨j, rfl⟩ : ∃ j, k = j + 1 := ⟨k - 1, by omega⟩
      rw [List.replicate_succ, List.cons_append]
      conv => lhs; unfold splitR
      rw [if_pos (by decide), if_neg hw.1, splitR_blanks, ih (fun x hx => h x (by simp at hx ⊢; exact .inr hx))]

theorem joinR_mem (k : Nat) (ws : List (List Nat)) : ∀ x ∈ joinR k ws, x = 32 ∨ ∃ w ∈ ws, x ∈ w := by
  induction ws with
  | nil => intro x hx; simp [joinR] at hx
  | cons w ws ih =>
    cases ws with
    | nil => intro x hx; exact .inr ⟨w, by simp, hx⟩
    | cons v l =>
      intro x hx
      change x ∈ w ++ List.replicate k 32 ++ joinR k (v :: l) at hx
      simp only [List.mem_append] at hx
      rcases hx with (hx | hx) | hx
      · exact .inr ⟨w, by simp, hx⟩
      · exact .inl (List.eq_of_mem_replicate hx)
      · rcases ih x hx with h | ⟨u, hu, h⟩
        · exact .inl h
        · exact .inr ⟨u, by simp at hu ⊢; exact .inr hu, h⟩
end Cl

end Go.Proofs.Ytpmelloanohlkaa
