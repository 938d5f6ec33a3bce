/- Contracts for the laws on bounds: what a geometry's numbers are. -/
import Derived.Test.YtdpbacmophaheaaA1
namespace Go.Proofs.Ytdpbacmophaheaa
open Go.RowKit

def wideB (s : Int) : Bool := decide (64 ≤ s) && decide (s ≤ 256) && (s % 16 == 0)

set_option maxHeartbeats 400000 in
theorem super_within (w : World) (x l h : Int) {r : Bool} (hr : (decide (l ≤ x) && decide (x ≤ h)) = r) :
    Calls Try.prog 93 #[.int .i64 x, .int .i64 l, .int .i64 h] w fun e w' => e = .returned (.bool r) ∧ w = w' := by
  have HR := Lib.hid hr; clear hr
  by_cases hq : l ≤ x
  all_goals
    go_enter Try.func93, Try.ntmps93
    go_wp2
    go_ret
    exact ⟨ret_bool (by rw [← HR.out]; simp [hq] <;> omega), rfl⟩
set_option maxHeartbeats 400000 in
theorem bound_within (w : World) (x l h : Int) {r : Bool} (hr : (decide (l ≤ x) && decide (x ≤ h)) = r) :
    Calls Try.prog 119 #[.int .i64 x, .int .i64 l, .int .i64 h] w fun e w' => e = .returned (.bool r) ∧ w = w' := by
  have HR := Lib.hid hr; clear hr
  by_cases hq : l ≤ x
  all_goals
    go_enter Try.func119, Try.ntmps119
    go_wp2
    go_ret
    exact ⟨ret_bool (by rw [← HR.out]; simp [hq] <;> omega), rfl⟩
set_option maxHeartbeats 400000 in
theorem op_within (w : World) (x l h : Int) {r : Bool} (hr : (decide (l ≤ x) && decide (x ≤ h)) = r) :
    Calls Try.prog 154 #[.int .i64 x, .int .i64 l, .int .i64 h] w fun e w' => e = .returned (.bool r) ∧ w = w' := by
  have HR := Lib.hid hr; clear hr
  by_cases hq : l ≤ x
  all_goals
    go_enter Try.func154, Try.ntmps154
    go_wp2
    go_ret
    exact ⟨ret_bool (by rw [← HR.out]; simp [hq] <;> omega), rfl⟩

set_option maxHeartbeats 400000 in
theorem ref_wide (w : World) (s : Int) {r : Bool} (hr : wideB s = r) :
    Calls Try.prog 17 #[.int .i64 s] w fun e w' => e = .returned (.bool r) ∧ w = w' := by
  have HR := Lib.hid hr; clear hr
  by_cases h1 : 64 ≤ s
  all_goals by_cases h2 : s ≤ 256
  all_goals
    go_enter Try.func17, Try.ntmps17
    go_wp2
    go_ret
    exact ⟨ret_bool (by rw [← HR.out]; simp [wideB, h1, h2] <;> omega), rfl⟩
set_option maxHeartbeats 400000 in
theorem journal_wide (w : World) (s : Int) {r : Bool} (hr : wideB s = r) :
    Calls Try.prog 71 #[.int .i64 s] w fun e w' => e = .returned (.bool r) ∧ w = w' := by
  have HR := Lib.hid hr; clear hr
  by_cases h1 : 64 ≤ s
  all_goals by_cases h2 : s ≤ 256
  all_goals
    go_enter Try.func71, Try.ntmps71
    go_wp2
    go_ret
    exact ⟨ret_bool (by rw [← HR.out]; simp [wideB, h1, h2] <;> omega), rfl⟩

/-- how many sectors an index of n entries has -/
def indexN (n s : Int) : Int := (4 * n + s - 1) / s
def sizeN (n s : Int) : Int := 1 + indexN n s + n
set_option maxHeartbeats 400000 in
theorem journal_index (w : World) (n s : Int) (h0 : 0 ≤ n) (h1 : n ≤ 65536) (h2 : 64 ≤ s) (h3 : s ≤ 256) :
    Calls Try.prog 72 #[.int .i64 n, .int .i64 s] w fun e w' => e = .returned (.int .i64 (indexN n s)) ∧ w = w' := by
  go_enter Try.func72, Try.ntmps72
  go_wp2
  go_ret
  exact ⟨ret_int (by simp [indexN]), rfl⟩

theorem index_bd {n s : Int} (h0 : 0 ≤ n) (h1 : n ≤ 65536) (h2 : 64 ≤ s) : 0 ≤ indexN n s ∧ indexN n s ≤ 4097 := by
  unfold indexN
  constructor
  · exact Int.ediv_nonneg (by omega) (by omega)
  · have : (4 * n + s - 1) / s ≤ 4097 := by
      apply Int.ediv_le_of_le_mul (by omega)
      omega
    exact this
/-- journal.Size's two answers -/
def sizeOk (n s : Int) : Bool := decide (0 ≤ n) && decide (n ≤ 65536) && wideB s
set_option maxHeartbeats 400000 in
theorem journal_size (w : World) (n s : Int) (hk : sizeOk n s = true) :
    Calls Try.prog 16 #[.int .i64 n, .int .i64 s] w fun e w' => e = .returned (.tuple #[.int .i64 (sizeN n s), .bool true]) ∧ w = w' := by
  simp only [sizeOk, Bool.and_eq_true, decide_eq_true_eq] at hk
  obtain ⟨⟨h0, h1⟩, hw⟩ := hk
  have hs : 64 ≤ s ∧ s ≤ 256 := by simp only [wideB, Bool.and_eq_true, decide_eq_true_eq] at hw; exact hw.1
  obtain ⟨h2, h3⟩ := hs
  have HW := Lib.hid hw; clear hw
  have hb := index_bd h0 h1 h2
  obtain ⟨hb1, hb2⟩ := hb
  go_enter Try.func16, Try.ntmps16
  go_wp2_with (first | (go_at_call 71; refine (journal_wide _ _ HW.out).mono ?_; rintro e w1 ⟨rfl, rfl⟩) | (go_at_call 72; refine (journal_index _ _ _ h0 h1 h2 h3).mono ?_; rintro e w2 ⟨rfl, rfl⟩))
  go_ret2
  exact ⟨by simp [sizeN], rfl⟩
set_option maxHeartbeats 400000 in
theorem journal_size_not (w : World) (n s : Int) (hk : sizeOk n s = false) :
    Calls Try.prog 16 #[.int .i64 n, .int .i64 s] w fun e w' => e = .returned (.tuple #[.int .i64 0, .bool false]) ∧ w = w' := by
  by_cases h0 : 0 ≤ n
  · by_cases h1 : n ≤ 65536
    · have HW : Hid (wideB s = false) := Lib.hid (by simpa [sizeOk, h0, h1] using hk)
      clear hk
      go_enter Try.func16, Try.ntmps16
      go_wp2_with (go_at_call 71; refine (journal_wide _ _ HW.out).mono ?_; rintro e w1 ⟨rfl, rfl⟩)
      go_ret2
      exact ⟨rfl, rfl⟩
    · clear hk
      go_enter Try.func16, Try.ntmps16
      go_wp2
      go_ret2
      exact ⟨rfl, rfl⟩
  · clear hk
    go_enter Try.func16, Try.ntmps16
    go_wp2
    go_ret2
    exact ⟨rfl, rfl⟩
set_option maxHeartbeats 400000 in
theorem txn_steps (w : World) (n s : Int) (hk : sizeOk n s = true) :
    Calls Try.prog 117 #[.int .i64 n, .int .i64 s] w fun e w' => e = .returned (.int .i64 (sizeN n s + n + 4)) ∧ w = w' := by
  have HK := Lib.hid hk
  simp only [sizeOk, Bool.and_eq_true, decide_eq_true_eq] at hk
  obtain ⟨⟨h0, h1⟩, hw⟩ := hk
  have hs : 64 ≤ s ∧ s ≤ 256 := by simp only [wideB, Bool.and_eq_true, decide_eq_true_eq] at hw; exact hw.1
  have hb := index_bd h0 h1 hs.1
  have hz : sizeN n s = 1 + indexN n s + n := rfl
  obtain ⟨hb1, hb2⟩ : 0 ≤ sizeN n s ∧ sizeN n s ≤ 80000 := by omega
  clear hz hb hs hw
  go_enter Try.func117, Try.ntmps117
  go_wp2_with (go_at_call 16; refine (journal_size _ _ _ HK.out).mono ?_; rintro e w1 ⟨rfl, rfl⟩)
  go_ret
  exact ⟨rfl, rfl⟩
end Go.Proofs.Ytdpbacmophaheaa
