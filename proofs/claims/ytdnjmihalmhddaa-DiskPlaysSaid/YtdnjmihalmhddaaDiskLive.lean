/-
  The disk's calls, for a disk that was made since.
-/
import Derived.Test.YtdnjmihalmhddaaDiskCrash
namespace Go.Proofs.Ytdnjmihalmhddaa
open Go.RowKit

theorem Live.only {w0 w w' : World} {d : Nat} {S' : Dk.St} {F : Nat → Prop} (h2 : ∀ k, F k → w0.heap.size ≤ k) (h3 : Below w0.heap.size w0 w) (ho : Only F w w') (hd : DiskAt w' d S' F) : Live w0 w' d S' :=
  Live.turned h2 h3 (S' := S') ⟨F, ho, hd, fun _ hk => .inl hk⟩

theorem live_new (room : Nat) (w : World) (h : 1 ≤ room ∧ room ≤ 4194304) :
    Calls Try.prog 10 #[.int .i64 (room : Int)] w fun e w' => e = .returned (.tuple #[ptr w.heap.size 0, .int .i64 0]) ∧ Live w w' w.heap.size (Dk.fresh room) :=
  (new_ok room w h).mono fun _ _ ⟨h1, h2, h3, _⟩ => ⟨h1, _, h3, fun _ hk => Nat.le_of_eq hk.symm, h2⟩
theorem live_append {w0 w : World} {d : Nat} {S : Dk.St} (h : Live w0 w d S) (f : Int) (s : ByteArray) (hm : S.loose.length ≤ 1000000000) :
    Calls Try.prog 11 #[ptr d 0, .int .i64 f, .string s] w fun e w' => e = .returned (.int .i64 (Dk.append S f s).1) ∧ Live w0 w' d (Dk.append S f s).2 := by
  obtain ⟨F, h1, h2, h3⟩ := h
  exact (append_any w d S F h1 f s hm).mono fun _ _ ⟨he, ht⟩ => ⟨he, Live.turned h2 h3 ht⟩
theorem live_cut {w0 w : World} {d : Nat} {S : Dk.St} (h : Live w0 w d S) (f n : Int) (hm : S.loose.length ≤ 1000000000) :
    Calls Try.prog 18 #[ptr d 0, .int .i64 f, .int .i64 n] w fun e w' => e = .returned (.int .i64 (Dk.cut S f n).1) ∧ Live w0 w' d (Dk.cut S f n).2 := by
  obtain ⟨F, h1, h2, h3⟩ := h
  exact (cut_any w d S F h1 f n hm).mono fun _ _ ⟨he, ht⟩ => ⟨he, Live.turned h2 h3 ht⟩
theorem live_move {w0 w : World} {d : Nat} {S : Dk.St} (h : Live w0 w d S) (a b : Int) (hm : S.loose.length ≤ 1000000000) :
    Calls Try.prog 12 #[ptr d 0, .int .i64 a, .int .i64 b] w fun e w' => e = .returned (.int .i64 (Dk.move S a b).1) ∧ Live w0 w' d (Dk.move S a b).2 := by
  obtain ⟨F, h1, h2, h3⟩ := h
  exact (move_any w d S F h1 a b hm).mono fun _ _ ⟨he, ht⟩ => ⟨he, Live.turned h2 h3 ht⟩
theorem live_sync {w0 w : World} {d : Nat} {S : Dk.St} (h : Live w0 w d S) :
    Calls Try.prog 15 #[ptr d 0] w fun e w' => e = .returned (.int .i64 (Dk.sync S).1) ∧ Live w0 w' d (Dk.sync S).2 := by
  obtain ⟨F, h1, h2, h3⟩ := h
  exact (sync_any w d S F h1).mono fun _ _ ⟨he, ho, hd⟩ => ⟨he, Live.only h2 h3 (ho.mono (fun i e => e ▸ h1.mem)) hd⟩
theorem live_power {w0 w : World} {d : Nat} {S : Dk.St} (h : Live w0 w d S) (n : Int) (hn : n ≤ 9223372036854775807) :
    Calls Try.prog 16 #[ptr d 0, .int .i64 n] w fun e w' => e = .returned (.int .i64 (Dk.power S n).1) ∧ Live w0 w' d (Dk.power S n).2 := by
  obtain ⟨F, h1, h2, h3⟩ := h
  exact (power_any w d S F h1 n hn).mono fun _ _ ⟨he, ho, hd⟩ => ⟨he, Live.only h2 h3 (ho.mono (fun i e => e ▸ h1.mem)) hd⟩
theorem live_crash {w0 w : World} {d : Nat} {S : Dk.St} (h : Live w0 w d S) (a b : Int) :
    Calls Try.prog 17 #[ptr d 0, .int .i64 a, .int .i64 b] w fun e w' => e = .returned (.tuple #[]) ∧ Live w0 w' d (Dk.crash S a b) := by
  obtain ⟨F, h1, h2, h3⟩ := h
  exact (crash_any w d S F h1 a b).mono fun _ _ ⟨he, ho, hd⟩ => ⟨he, Live.only h2 h3 ho hd⟩
theorem live_read {w0 w : World} {d : Nat} {S : Dk.St} (h : Live w0 w d S) (f : Int) :
    Calls Try.prog 13 #[ptr d 0, .int .i64 f] w fun e w' => e = .returned (.tuple #[.string (Dk.read S f).1, .int .i64 (Dk.read S f).2]) ∧ Live w0 w' d S := by
  obtain ⟨F, h1, h2, h3⟩ := h
  exact (read_any w d S F h1 f).mono fun _ _ ⟨he, hb⟩ => ⟨he, F, h1.below hb, h2, bel_trans h3 hb⟩
theorem live_left {w0 w : World} {d : Nat} {S : Dk.St} (h : Live w0 w d S) :
    Calls Try.prog 14 #[ptr d 0] w fun e w' => e = .returned (.int .i64 (Dk.leftOf S)) ∧ w = w' := by
  obtain ⟨F, h1, h2, h3⟩ := h
  exact left_any w d S F h1
theorem live_on {w0 w : World} {d : Nat} {S : Dk.St} (h : Live w0 w d S) :
    Calls Try.prog 19 #[ptr d 0] w fun e w' => e = .returned (.bool (!S.off)) ∧ w = w' := by
  obtain ⟨F, h1, h2, h3⟩ := h
  exact on_any w d S F h1
theorem live_loose {w0 w : World} {d : Nat} {S : Dk.St} (h : Live w0 w d S) :
    Calls Try.prog 20 #[ptr d 0] w fun e w' => e = .returned (.int .i64 (S.loose.length : Int)) ∧ w = w' := by
  obtain ⟨F, h1, h2, h3⟩ := h
  exact loose_any w d S F h1

theorem on_nil (w : World) : Calls Try.prog 19 #[.pointer none] w fun e w' => e = .returned (.bool false) ∧ w = w' := by
  go_enter Try.func19, Try.ntmps19
  go_wp2_with fail
  go_ret
  exact ⟨rfl, rfl⟩
theorem loose_nil (w : World) : Calls Try.prog 20 #[.pointer none] w fun e w' => e = .returned (.int .i64 0) ∧ w = w' := by
  go_enter Try.func20, Try.ntmps20
  go_wp2_with fail
  go_ret
  exact ⟨rfl, rfl⟩

/-! What 'works' goes through. -/
def wk0 : Dk.St := Dk.fresh 10
def wk1 : Dk.St := (Dk.append wk0 0 ⟨#[97, 98, 99]⟩).2
def wk2 : Dk.St := (Dk.sync wk1).2
def wk3 : Dk.St := (Dk.append wk2 0 ⟨#[100, 101]⟩).2
def wk4 : Dk.St := (Dk.cut wk3 0 1).2
theorem wk_e1 : (Dk.append wk0 0 ⟨#[97, 98, 99]⟩).1 = 0 := by kernel_rfl
theorem wk_e2 : (Dk.sync wk1).1 = 0 := by kernel_rfl
theorem wk_e3 : (Dk.append wk2 0 ⟨#[100, 101]⟩).1 = 0 := by kernel_rfl
theorem wk_e4 : (Dk.cut wk3 0 1).1 = 0 := by kernel_rfl
theorem wk_l : wk0.loose.length = 0 ∧ wk1.loose.length = 1 ∧ wk2.loose.length = 0 ∧ wk3.loose.length = 1 ∧ wk4.loose.length = 2 := ⟨by kernel_rfl, by kernel_rfl, by kernel_rfl, by kernel_rfl, by kernel_rfl⟩
theorem wk_r : Dk.read (Dk.crash wk4 1 0) 0 = (⟨#[97, 98, 99, 100, 101]⟩, 0) := by kernel_rfl

set_option maxHeartbeats 2000000 in
theorem works_any (w : World) : Calls Try.prog 9 #[] w fun e w' => e = .returned (.bool true) ∧ Below w.heap.size w w' := by
  have HLL := Lib.hid wk_l
  go_enter Try.func9, Try.ntmps9
  go_wp2_with fail
  refine (live_new 10 w (by decide)).mono ?_
  rintro e w1 ⟨rfl, h⟩
  have H := Lib.hid (show Live w w1 w.heap.size wk0 from h)
  clear h
  unfold ptr
  go_wp2_with fail
  refine (live_append H.out _ _ (by rw [HLL.out.1]; decide)).mono ?_
  rintro e w2 ⟨rfl, h⟩
  rw [wk_e1]
  have H := Lib.hid (show Live w w2 w.heap.size wk1 from h)
  clear h
  go_wp2_with fail
  refine (live_sync H.out).mono ?_
  rintro e w3 ⟨rfl, h⟩
  rw [wk_e2]
  have H := Lib.hid (show Live w w3 w.heap.size wk2 from h)
  clear h
  go_wp2_with fail
  refine (live_append H.out _ _ (by rw [HLL.out.2.2.1]; decide)).mono ?_
  rintro e w4 ⟨rfl, h⟩
  rw [wk_e3]
  have H := Lib.hid (show Live w w4 w.heap.size wk3 from h)
  clear h
  go_wp2_with fail
  refine (live_cut H.out _ _ (by rw [HLL.out.2.2.2.1]; decide)).mono ?_
  rintro e w5 ⟨rfl, h⟩
  rw [wk_e4]
  have H := Lib.hid (show Live w w5 w.heap.size wk4 from h)
  clear h
  go_wp2_with fail
  refine (live_loose H.out).mono ?_
  rintro e w6 ⟨rfl, rfl⟩
  rw [HLL.out.2.2.2.2]
  go_wp2_with fail
  refine (live_crash H.out _ _).mono ?_
  rintro e w7 ⟨rfl, h⟩
  have H := Lib.hid h
  clear h
  go_wp2_with fail
  refine (live_read H.out _).mono ?_
  rintro e w8 ⟨rfl, h⟩
  rw [wk_r]
  have H := Lib.hid h
  clear h
  go_wp2_with fail
  go_ret
  exact ⟨rfl, H.out.bel⟩

end Go.Proofs.Ytdnjmihalmhddaa
