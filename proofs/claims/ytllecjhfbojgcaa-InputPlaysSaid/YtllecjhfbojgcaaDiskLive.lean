/-
  The disk's calls, for a disk that was made since.
-/
import Derived.Test.YtllecjhfbojgcaaDiskCrash
namespace Go.Proofs.Ytllecjhfbojgcaa
open Go.RowKit
set_option maxRecDepth 20000

theorem Live.only {w0 w w' : World} {d : Nat} {S' : Dk.St} {F : Nat → Prop} (h2 : ∀ k, F k → w0.heap.size ≤ k) (h3 : Below w0.heap.size w0 w) (ho : Only F w w') (hd : DiskAt w' d S' F) : Live w0 w' d S' :=
  Live.turned h2 h3 (S' := S') ⟨F, ho, hd, fun _ hk => .inl hk⟩

theorem live_new (room : Nat) (w : World) (h : 1 ≤ room ∧ room ≤ 4194304) :
    Calls Try.prog 12 #[.int .i64 (room : Int)] w fun e w' => e = .returned (.tuple #[ptr w.heap.size 0, .int .i64 0]) ∧ Live w w' w.heap.size (Dk.fresh room) :=
  (new_ok room w h).mono fun _ _ ⟨h1, h2, h3, _⟩ => ⟨h1, _, h3, fun _ hk => Nat.le_of_eq hk.symm, h2⟩
theorem live_append {w0 w : World} {d : Nat} {S : Dk.St} (h : Live w0 w d S) (f : Int) (s : ByteArray) (hm : S.loose.length ≤ 1000000000) :
    Calls Try.prog 53 #[ptr d 0, .int .i64 f, .string s] w fun e w' => e = .returned (.int .i64 (Dk.append S f s).1) ∧ Live w0 w' d (Dk.append S f s).2 := by
  obtain ⟨F, h1, h2, h3⟩ := h
  exact (append_any w d S F h1 f s hm).mono fun _ _ ⟨he, ht⟩ => ⟨he, Live.turned h2 h3 ht⟩
theorem live_cut {w0 w : World} {d : Nat} {S : Dk.St} (h : Live w0 w d S) (f n : Int) (hm : S.loose.length ≤ 1000000000) :
    Calls Try.prog 55 #[ptr d 0, .int .i64 f, .int .i64 n] w fun e w' => e = .returned (.int .i64 (Dk.cut S f n).1) ∧ Live w0 w' d (Dk.cut S f n).2 := by
  obtain ⟨F, h1, h2, h3⟩ := h
  exact (cut_any w d S F h1 f n hm).mono fun _ _ ⟨he, ht⟩ => ⟨he, Live.turned h2 h3 ht⟩
theorem live_move {w0 w : World} {d : Nat} {S : Dk.St} (h : Live w0 w d S) (a b : Int) (hm : S.loose.length ≤ 1000000000) :
    Calls Try.prog 57 #[ptr d 0, .int .i64 a, .int .i64 b] w fun e w' => e = .returned (.int .i64 (Dk.move S a b).1) ∧ Live w0 w' d (Dk.move S a b).2 := by
  obtain ⟨F, h1, h2, h3⟩ := h
  exact (move_any w d S F h1 a b hm).mono fun _ _ ⟨he, ht⟩ => ⟨he, Live.turned h2 h3 ht⟩
theorem live_sync {w0 w : World} {d : Nat} {S : Dk.St} (h : Live w0 w d S) :
    Calls Try.prog 59 #[ptr d 0] w fun e w' => e = .returned (.int .i64 (Dk.sync S).1) ∧ Live w0 w' d (Dk.sync S).2 := by
  obtain ⟨F, h1, h2, h3⟩ := h
  exact (sync_any w d S F h1).mono fun _ _ ⟨he, ho, hd⟩ => ⟨he, Live.only h2 h3 (ho.mono (fun i e => e ▸ h1.mem)) hd⟩
theorem live_power {w0 w : World} {d : Nat} {S : Dk.St} (h : Live w0 w d S) (n : Int) (hn : n ≤ 9223372036854775807) :
    Calls Try.prog 19 #[ptr d 0, .int .i64 n] w fun e w' => e = .returned (.int .i64 (Dk.power S n).1) ∧ Live w0 w' d (Dk.power S n).2 := by
  obtain ⟨F, h1, h2, h3⟩ := h
  exact (power_any w d S F h1 n hn).mono fun _ _ ⟨he, ho, hd⟩ => ⟨he, Live.only h2 h3 (ho.mono (fun i e => e ▸ h1.mem)) hd⟩
theorem live_crash {w0 w : World} {d : Nat} {S : Dk.St} (h : Live w0 w d S) (a b : Int) :
    Calls Try.prog 20 #[ptr d 0, .int .i64 a, .int .i64 b] w fun e w' => e = .returned (.tuple #[]) ∧ Live w0 w' d (Dk.crash S a b) := by
  obtain ⟨F, h1, h2, h3⟩ := h
  exact (crash_any w d S F h1 a b).mono fun _ _ ⟨he, ho, hd⟩ => ⟨he, Live.only h2 h3 ho hd⟩
theorem live_read {w0 w : World} {d : Nat} {S : Dk.St} (h : Live w0 w d S) (f : Int) :
    Calls Try.prog 61 #[ptr d 0, .int .i64 f] w fun e w' => e = .returned (.tuple #[.string (Dk.read S f).1, .int .i64 (Dk.read S f).2]) ∧ Live w0 w' d S := by
  obtain ⟨F, h1, h2, h3⟩ := h
  exact (read_any w d S F h1 f).mono fun _ _ ⟨he, hb⟩ => ⟨he, F, h1.below hb, h2, bel_trans h3 hb⟩
theorem live_left {w0 w : World} {d : Nat} {S : Dk.St} (h : Live w0 w d S) :
    Calls Try.prog 89 #[ptr d 0] w fun e w' => e = .returned (.int .i64 (Dk.leftOf S)) ∧ w = w' := by
  obtain ⟨F, h1, h2, h3⟩ := h
  exact left_any w d S F h1
theorem live_on {w0 w : World} {d : Nat} {S : Dk.St} (h : Live w0 w d S) :
    Calls Try.prog 26 #[ptr d 0] w fun e w' => e = .returned (.bool (!S.off)) ∧ w = w' := by
  obtain ⟨F, h1, h2, h3⟩ := h
  exact on_any w d S F h1
theorem live_loose {w0 w : World} {d : Nat} {S : Dk.St} (h : Live w0 w d S) :
    Calls Try.prog 25 #[ptr d 0] w fun e w' => e = .returned (.int .i64 (S.loose.length : Int)) ∧ w = w' := by
  obtain ⟨F, h1, h2, h3⟩ := h
  exact loose_any w d S F h1

theorem on_nil (w : World) : Calls Try.prog 26 #[.pointer none] w fun e w' => e = .returned (.bool false) ∧ w = w' := by
  go_enter Try.func26, Try.ntmps26
  go_wp2_with fail
  go_ret
  exact ⟨rfl, rfl⟩
theorem loose_nil (w : World) : Calls Try.prog 25 #[.pointer none] w fun e w' => e = .returned (.int .i64 0) ∧ w = w' := by
  go_enter Try.func25, Try.ntmps25
  go_wp2_with fail
  go_ret
  exact ⟨rfl, rfl⟩

end Go.Proofs.Ytllecjhfbojgcaa
