/-
  Plain facts on the encoding: what was decoded, encoded anew.
-/
import Derived.Test.YtpmelloanohlkaaNamesPlain
import Derived.Lib.MapLaws
import Derived.Lib.Strings
import Derived.Stop.FmtQuoteTie
namespace Go.Proofs.Ytpmelloanohlkaa
open Go.RowKit

theorem get_drop (s : ByteArray) (pos k : Nat) : (⟨(s.data.toList.drop pos).toArray⟩ : ByteArray).get! (0 + k) = s.get! (pos + k) := by
  show (s.data.toList.drop pos).toArray[0 + k]! = s.data[pos + k]!
  simp [Array.getElem!_eq_getD, Array.getD_eq_getD_getElem?, List.getElem?_drop]

theorem size_drop (s : ByteArray) (pos : Nat) : (⟨(s.data.toList.drop pos).toArray⟩ : ByteArray).size = s.size - pos := by
  show (s.data.toList.drop pos).toArray.size = s.data.size - pos
  simp

theorem decode_drop (s : ByteArray) (pos : Nat) : Lib.decodeL (s.data.toList.drop pos) = Utf8.decode s pos := by
  have h : ∀ k, (0 + k < s.size - pos) ↔ (pos + k < s.size) := fun k => by omega
  unfold Lib.decodeL Utf8.decode
  simp only [get_drop, size_drop, h]

theorem byte_nat (n : Nat) : UInt8.ofNat n = ((n : Int)).toNat.toUInt8 := by simp [Nat.toUInt8]

theorem encode_list (r : Nat) : (Utf8.encode (r : Int)).data.toList = Lib.encodeRune r := by
  unfold Lib.encodeRune
  by_cases h1 : r < 128
  · rw [Go.Extern.FmtText.enc1 r h1, Lib.encodeRuneZ_one (by omega) (by omega)]
    simp only [List.map_cons, List.map_nil, ← byte_nat]
  · by_cases h2 : r < 2048
    · rw [Go.Extern.FmtText.enc2 r h1 h2, Lib.encodeRuneZ_two (by omega) (by omega), show (192 : Int) + (r : Int) / 64 = ((192 + r / 64 : Nat) : Int) by omega, show (128 : Int) + (r : Int) % 64 = ((128 + r % 64 : Nat) : Int) by omega]
      simp only [List.map_cons, List.map_nil, ← byte_nat]
    · by_cases h5 : (55296 ≤ r ∧ r ≤ 57343) ∨ 1114111 < r
      · rw [Go.Extern.FmtText.encBad r h5, Lib.encodeRuneZ_bad (by omega)]
        rfl
      · by_cases h3 : r < 65536
        · rw [Go.Extern.FmtText.enc3 r h2 h3 (by omega), Lib.encodeRuneZ_three (by omega), show (224 : Int) + (r : Int) / 4096 = ((224 + r / 4096 : Nat) : Int) by omega, show (128 : Int) + (r : Int) / 64 % 64 = ((128 + r / 64 % 64 : Nat) : Int) by omega, show (128 : Int) + (r : Int) % 64 = ((128 + r % 64 : Nat) : Int) by omega]
          simp only [List.map_cons, List.map_nil, ← byte_nat]
        · rw [Go.Extern.FmtText.enc4 r h3 (by omega), Lib.encodeRuneZ_four (by omega) (by omega), show (240 : Int) + (r : Int) / 262144 = ((240 + r / 262144 : Nat) : Int) by omega, show (128 : Int) + (r : Int) / 4096 % 64 = ((128 + r / 4096 % 64 : Nat) : Int) by omega, show (128 : Int) + (r : Int) / 64 % 64 = ((128 + r / 64 % 64 : Nat) : Int) by omega, show (128 : Int) + (r : Int) % 64 = ((128 + r % 64 : Nat) : Int) by omega]
          simp only [List.map_cons, List.map_nil, ← byte_nat]

/-- What was decoded and is no error, encoded anew, is the bytes that it came from. -/
theorem encode_back (s : ByteArray) (pos : Nat) (hp : pos < s.size) (h : (Utf8.decode s pos).1 ≠ 65533) :
    (Utf8.encode (Utf8.decode s pos).1).data.toList = (s.data.toList.drop pos).take (Utf8.decode s pos).2 := by
  rw [encode_list, ← decode_drop]
  have hne : s.data.toList.drop pos ≠ [] := by
    intro e
    have := congrArg List.length e
    simp at this
    have h2 : s.size = s.data.size := rfl
    omega
  exact Lib.encode_decode _ hne (fun hc => h (by rw [← decode_drop]; exact hc.1))

end Go.Proofs.Ytpmelloanohlkaa
