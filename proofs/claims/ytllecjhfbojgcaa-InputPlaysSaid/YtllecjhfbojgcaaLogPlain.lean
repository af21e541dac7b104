/-
  The log, plainly: records, their bytes, where they end.
-/
import Derived.Test.YtllecjhfbojgcaaFramePlain
import Derived.Test.YtllecjhfbojgcaaDiskPlain
namespace Go.Proofs.Ytllecjhfbojgcaa
namespace Lg

structure Rec where
  kind : UInt8
  text : ByteArray

def frameB (r : Rec) : List UInt8 := Cl.putF r.kind r.text.data.toList
def bytesOf (rs : List Rec) : List UInt8 := rs.flatMap frameB
def ends (rs : List Rec) (k : Nat) : Nat := (bytesOf (rs.take k)).length
theorem bytes_snoc (rs : List Rec) (r : Rec) : bytesOf (rs ++ [r]) = bytesOf rs ++ frameB r := by simp [bytesOf]
theorem ends_zero (rs : List Rec) : ends rs 0 = 0 := by simp [ends, bytesOf]
theorem ends_all (rs : List Rec) : ends rs rs.length = (bytesOf rs).length := by simp [ends]
theorem ends_snoc (rs : List Rec) (r : Rec) (k : Nat) (hk : k ≤ rs.length) : ends (rs ++ [r]) k = ends rs k := by
  unfold ends
  rw [List.take_append_of_le_length hk]
theorem ends_le (rs : List Rec) (k : Nat) : ends rs k ≤ (bytesOf rs).length := by
  unfold ends bytesOf
  conv => rhs; rw [← List.take_append_drop k rs, List.flatMap_append, List.length_append]
  omega
theorem take_bytes (rs : List Rec) (k : Nat) : (bytesOf rs).take (ends rs k) = bytesOf (rs.take k) := by
  unfold ends
  have : bytesOf rs = bytesOf (rs.take k) ++ bytesOf (rs.drop k) := by
    unfold bytesOf
    rw [← List.flatMap_append, List.take_append_drop]
  rw [this, List.take_left']
  rfl

/-- The records' cells; e: where the first one begins. -/
def cellsFrom (e : Nat) : List Rec → List Value
  | [] => []
  | r :: rs => .int .u8 (r.kind.toNat : Int) :: .string r.text :: .int .i64 ((e + (frameB r).length : Nat) : Int) :: cellsFrom (e + (frameB r).length) rs
def cells (rs : List Rec) : List Value := cellsFrom 0 rs
theorem cellsFrom_len (rs : List Rec) : ∀ e, (cellsFrom e rs).length = rs.length * 3 := by
  induction rs with
  | nil => intro e; rfl
  | cons r rs ih => intro e; simp only [cellsFrom, List.length_cons, ih]; omega
theorem cells_len (rs : List Rec) : (cells rs).length = rs.length * 3 := cellsFrom_len rs 0
theorem cellsFrom_snoc (r : Rec) (rs : List Rec) : ∀ e, cellsFrom e (rs ++ [r]) = cellsFrom e rs ++ [.int .u8 (r.kind.toNat : Int), .string r.text, .int .i64 ((e + (bytesOf rs).length + (frameB r).length : Nat) : Int)] := by
  induction rs with
  | nil => intro e; simp [cellsFrom, bytesOf]
  | cons x rs ih =>
    intro e
    simp only [List.cons_append, cellsFrom, ih]
    simp [bytesOf, Nat.add_assoc]
theorem cells_snoc (r : Rec) (rs : List Rec) : cells (rs ++ [r]) = cells rs ++ [.int .u8 (r.kind.toNat : Int), .string r.text, .int .i64 (((bytesOf rs).length + (frameB r).length : Nat) : Int)] := by
  unfold cells
  rw [cellsFrom_snoc, Nat.zero_add]
theorem cellsFrom_at (rs : List Rec) : ∀ (e k : Nat) (r : Rec), rs[k]? = some r → (cellsFrom e rs)[k * 3]? = some (.int .u8 (r.kind.toNat : Int)) ∧ (cellsFrom e rs)[k * 3 + 1]? = some (.string r.text) ∧ (cellsFrom e rs)[k * 3 + 2]? = some (.int .i64 ((e + ends rs (k + 1) : Nat) : Int)) := by
  induction rs with
  | nil => intro e k r h; simp at h
  | cons x rs ih =>
    intro e k r h
    cases k with
    | zero =>
      simp only [List.getElem?_cons_zero, Option.some.injEq] at h
      subst h
      refine ⟨rfl, rfl, ?_⟩
      simp [cellsFrom, ends, bytesOf]
    | succ k =>
      obtain ⟨h1, h2, h3⟩ := ih (e + (frameB x).length) k r (by simpa using h)
      rw [show (k + 1) * 3 = k * 3 + 1 + 1 + 1 by omega]
      refine ⟨by simpa [cellsFrom] using h1, by simpa [cellsFrom] using h2, ?_⟩
      simp only [cellsFrom]
      rw [show k * 3 + 1 + 1 + 1 + 2 = k * 3 + 2 + 1 + 1 + 1 by omega]
      simp only [List.getElem?_cons_succ]
      rw [h3]
      simp [ends, bytesOf]
      omega
theorem cells_at (rs : List Rec) (k : Nat) (r : Rec) (h : rs[k]? = some r) : (cells rs)[k * 3]? = some (.int .u8 (r.kind.toNat : Int)) ∧ (cells rs)[k * 3 + 1]? = some (.string r.text) ∧ (cells rs)[k * 3 + 2]? = some (.int .i64 (ends rs (k + 1) : Int)) := by
  have := cellsFrom_at rs 0 k r h
  rw [Nat.zero_add] at this
  exact this
theorem cellsFrom_take (rs : List Rec) : ∀ (e k : Nat), cellsFrom e (rs.take k) = (cellsFrom e rs).take (k * 3) := by
  induction rs with
  | nil => intro e k; simp [cellsFrom]
  | cons x rs ih =>
    intro e k
    cases k with
    | zero => simp [cellsFrom]
    | succ k =>
      rw [show (k + 1) * 3 = k * 3 + 1 + 1 + 1 by omega]
      simp only [List.take_succ_cons, cellsFrom, ih]
theorem cells_take (rs : List Rec) (k : Nat) : cells (rs.take k) = (cells rs).take (k * 3) := cellsFrom_take rs 0 k

/-! What the calls answer, and what they leave. -/
structure St where
  rs : List Rec
  sure : Nat

def putE (k : UInt8) (t : ByteArray) : Int := if k.toNat = 0 then 2 else if 65536 < t.size then 3 else 0
/-- Put: the error, the disk, the log. -/
def put (D : Dk.St) (file : Int) (L : St) (r : Rec) : Int × Dk.St × St :=
  if putE r.kind r.text ≠ 0 then (putE r.kind r.text, D, L) else
  if (Dk.append D file ⟨(frameB r).toArray⟩).1 ≠ 0 then ((Dk.append D file ⟨(frameB r).toArray⟩).1, (Dk.append D file ⟨(frameB r).toArray⟩).2, L) else
  (0, (Dk.append D file ⟨(frameB r).toArray⟩).2, { L with rs := L.rs ++ [r] })
def sync (D : Dk.St) (L : St) : Int × Dk.St × St :=
  if L.sure = L.rs.length then (0, D, L) else
  if (Dk.sync D).1 = 0 then (0, (Dk.sync D).2, { L with sure := L.rs.length }) else ((Dk.sync D).1, (Dk.sync D).2, L)
def cutDone (D : Dk.St) (L : St) (many : Nat) : Int × Dk.St × St :=
  if (Dk.sync D).1 = 0 then (0, (Dk.sync D).2, ⟨L.rs.take many, many⟩) else ((Dk.sync D).1, (Dk.sync D).2, ⟨L.rs.take many, min L.sure many⟩)
def cut (D : Dk.St) (file : Int) (L : St) (many : Int) : Int × Dk.St × St :=
  if many < 0 ∨ (L.rs.length : Int) < many then (5, D, L) else
  if many = (L.rs.length : Int) then (0, D, L) else
  if (Dk.cut D file (ends L.rs many.toNat)).1 ≠ 0 then ((Dk.cut D file (ends L.rs many.toNat)).1, (Dk.cut D file (ends L.rs many.toNat)).2, L) else
  cutDone (Dk.cut D file (ends L.rs many.toNat)).2 L many.toNat
def at' (L : St) (i : Int) : Int × ByteArray × Int := if i < 0 then (0, ⟨#[]⟩, 5) else match L.rs[i.toNat]? with
  | some r => (r.kind.toNat, r.text, 0)
  | none => (0, ⟨#[]⟩, 5)

end Lg
end Go.Proofs.Ytllecjhfbojgcaa
