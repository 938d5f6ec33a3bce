/- The walk of the law BoundTells. -/
import Derived.Test.YtdpbacmophaheaaMB
namespace Go.Proofs.Ytdpbacmophaheaa
open Go.RowKit

set_option maxHeartbeats 400000 in
theorem law31_plain (w : World) : Calls Try.prog 113 #[] w fun e w' => e = .returned (.agg #[.int .i64 64, .int .i64 2, .int .i64 3, .int .i64 10]) ∧ Below w.heap.size w w' := by
  go_enter Try.func113, Try.ntmps113
  go_wp2
  exact bodyPost_ret (v := .agg #[.int .i64 64, .int .i64 2, .int .i64 3, .int .i64 10]) (by simp [results, Try.results113, go_sem]) rfl ⟨rfl, (Below.refl _ _).alloc (Nat.le_refl _) _⟩
theorem plain_change : changeN 64 2 3 10 9 = stepsN (metaS 64 2 3 10) 64 ∧ 4 ≤ stepsN (metaS 64 2 3 10) 64 := by decide +kernel
set_option maxHeartbeats 400000 in
theorem awake41 (w : World) : Calls Try.prog 57 #[] w fun e w' => e = .returned (.bool true) ∧ Below w.heap.size w w' := by
  obtain ⟨h1, h2⟩ := plain_change
  have HC := Lib.hid fun W => bound_change W 64 2 3 10 9
  rw [h1] at HC
  clear h1
  generalize stepsN (metaS 64 2 3 10) 64 = s at *
  have HD : Hid (∀ W, Calls Try.prog 66 #[.slice none 0 0] W fun e w' => e = .returned (.int .i64 0) ∧ Below W.heap.size W w') := Lib.hid fun W => bound_draws (Sl.nil Enc.opk W (fun _ => True)) (by omega)
  go_enter Try.func57, Try.ntmps57
  go_wp2_with fail
  refine (HD.out _).mono ?_
  rintro e w1 ⟨rfl, hb1⟩
  go_wp2_with fail
  refine (law31_plain _).mono ?_
  rintro e w2 ⟨rfl, hb2⟩
  go_wp2_with fail
  refine (HC.out _).mono ?_
  rintro e w3 ⟨rfl, hb3⟩
  replace hb2 := below_then hb1 hb1.size hb2
  replace hb3 := below_then hb2 hb2.size hb3
  go_wp2
  go_ret
  exact ⟨ret_bool (by simp; omega), hb3⟩
end Go.Proofs.Ytdpbacmophaheaa
