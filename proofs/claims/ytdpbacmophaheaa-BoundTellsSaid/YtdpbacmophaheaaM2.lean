/- Contracts for the laws on bounds: geometries. -/
import Derived.Test.YtdpbacmophaheaaM1
import Derived.BigGuardPart
namespace Go.Proofs.Ytdpbacmophaheaa
open Go.RowKit

def geomB (a b c d : Int) : Bool := wideB a && (decide (1 ≤ b) && decide (b ≤ 16)) && (decide (1 ≤ c) && decide (c ≤ 64)) && (decide (1 ≤ d) && decide (d ≤ 4096))
theorem geomB_in {a b c d : Int} (h : geomB a b c d = true) : wideB a = true ∧ 64 ≤ a ∧ a ≤ 256 ∧ 1 ≤ b ∧ b ≤ 16 ∧ 1 ≤ c ∧ c ≤ 64 ∧ 1 ≤ d ∧ d ≤ 4096 := by
  simp only [geomB, Bool.and_eq_true, decide_eq_true_eq] at h
  have hw := h.1.1.1
  simp only [wideB, Bool.and_eq_true, decide_eq_true_eq] at hw
  refine ⟨h.1.1.1, ?_⟩
  omega
set_option maxHeartbeats 1000000 in
theorem ref_right (w : World) (a b c d : Int) {r : Bool} (hr : geomB a b c d = r) :
    Calls Try.prog 58 #[.agg #[.int .i64 a, .int .i64 b, .int .i64 c, .int .i64 d]] w fun e w' => e = .returned (.bool r) ∧ Below w.heap.size w w' := by
  have HR := Lib.hid hr; clear hr
  cases hq : wideB a
  all_goals
    have HQ := Lib.hid hq
    clear hq
    go_enter Try.func58, Try.ntmps58
    go_wp2_with (go_at_call 17; refine (ref_wide _ _ HQ.out).mono ?_; rintro e w1 ⟨rfl, rfl⟩)
    all_goals
      go_ret
      exact ⟨ret_bool (by rw [← HR.out]; have hq := HQ.out; simp [geomB, *] <;> omega), (Below.refl _ _).alloc (Nat.le_refl _) _⟩
theorem wideB_eq (a : Int) : (a % 16 == 0) = wideB a ∨ ¬ (64 ≤ a ∧ a ≤ 256) := by
  by_cases h : 64 ≤ a ∧ a ≤ 256
  · left; simp [wideB, h.1, h.2]
  · right; exact h
set_option maxHeartbeats 2000000 in
theorem super_right (w : World) (a b c d : Int) {r : Bool} (hr : geomB a b c d = r) :
    Calls Try.prog 92 #[.agg #[.int .i64 a, .int .i64 b, .int .i64 c, .int .i64 d]] w fun e w' => e = .returned (.bool r) ∧ Below w.heap.size w w' := by
  have HR := Lib.hid hr; clear hr
  cases h1 : (decide (64 ≤ a) && decide (a ≤ 256))
  · have H1 := Lib.hid h1
    clear h1
    go_enter Try.func92, Try.ntmps92
    go_wp2_with (go_at_call 93; (with_reducible refine (super_within _ _ _ _ H1.out).mono ?_); rintro e w1 ⟨rfl, rfl⟩)
    go_ret
    have h1 := H1.out
    exact ⟨ret_bool (by rw [← HR.out]; simp only [geomB, wideB, h1, Bool.false_and]), (Below.refl _ _).alloc (Nat.le_refl _) _⟩
  · have H1 := Lib.hid h1
    simp only [Bool.and_eq_true, decide_eq_true_eq] at h1
    obtain ⟨ha1, ha2⟩ := h1
    have hm : (a % 16 == 0) = wideB a := by rcases wideB_eq a with h | h; exact h; omega
    obtain ⟨q, hq⟩ : ∃ q, wideB a = q := ⟨_, rfl⟩
    obtain ⟨b2, h2⟩ : ∃ q, (decide (1 ≤ b) && decide (b ≤ 16)) = q := ⟨_, rfl⟩
    obtain ⟨b3, h3⟩ : ∃ q, (decide (1 ≤ c) && decide (c ≤ 64)) = q := ⟨_, rfl⟩
    obtain ⟨b4, h4⟩ : ∃ q, (decide (1 ≤ d) && decide (d ≤ 4096)) = q := ⟨_, rfl⟩
    rw [hq] at hm
    have HF : Hid ((q && b2 && b3 && b4) = r) := Lib.hid (by rw [← HR.out, geomB, hq, h2, h3, h4])
    clear hq HR
    cases q <;> cases b2 <;> cases b3 <;> cases b4
    all_goals
      have H2 := Lib.hid h2
      have H3 := Lib.hid h3
      have H4 := Lib.hid h4
      clear h2 h3 h4
      go_enter Try.func92, Try.ntmps92
      go_wp2_with (go_at_call 93; (first | (with_reducible refine (super_within _ _ _ _ H1.out).mono ?_) | (with_reducible refine (super_within _ _ _ _ H2.out).mono ?_) | (with_reducible refine (super_within _ _ _ _ H3.out).mono ?_) | (with_reducible refine (super_within _ _ _ _ H4.out).mono ?_)); rintro e w1 ⟨rfl, rfl⟩)
      all_goals
        go_ret
        refine ⟨ret_bool ?_, ?_⟩
        · exact HF.out
        · exact (Below.refl _ _).alloc (Nat.le_refl _) _
end Go.Proofs.Ytdpbacmophaheaa
