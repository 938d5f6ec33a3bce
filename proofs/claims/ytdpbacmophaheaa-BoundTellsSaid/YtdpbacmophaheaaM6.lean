/- Contracts for the laws on bounds: what a change, a format, a mount cost. -/
import Derived.Test.YtdpbacmophaheaaM5
namespace Go.Proofs.Ytdpbacmophaheaa
open Go.RowKit

def changesB (k : Int) : Bool := (decide (1 ≤ k) && decide (k ≤ 10)) && (k != 6) && (k != 7)
set_option maxHeartbeats 1000000 in
theorem op_changes (w : World) (k : Int) {r : Bool} (hr : changesB k = r) :
    Calls Try.prog 116 #[.int .i64 k] w fun e w' => e = .returned (.bool r) ∧ w = w' := by
  have HR := Lib.hid hr; clear hr
  cases h1 : (decide (1 ≤ k) && decide (k ≤ 10))
  all_goals
    have H1 := Lib.hid h1
    clear h1
    go_enter Try.func116, Try.ntmps116
    go_wp2_with (go_at_call 154; refine (op_within _ _ _ _ H1.out).mono ?_; rintro e w1 ⟨rfl, rfl⟩)
    all_goals
      go_ret
      have h1 := H1.out
      exact ⟨ret_bool (by rw [← HR.out]; simp [changesB, *]), rfl⟩

def stepsN (m a : Int) : Int := sizeN m a + m + 4
def changeN (a b c d k : Int) : Int := if geomB a b c d && changesB k then stepsN (if k = 8 then metaS a b c d + 1 else metaS a b c d) a else 0
theorem metaS_bd {a b c d : Int} (hg : geomB a b c d = true) : 1 ≤ metaS a b c d ∧ metaS a b c d ≤ 9376 := by
  obtain ⟨-, h1, h2, h3, h4, h5, h6, h7, h8⟩ := geomB_in hg
  have hN1 : 0 ≤ metaN b c d ∧ metaN b c d ≤ 500000 := by unfold metaN; omega
  have hsb := upN_bd (N := metaN b c d + 4) (a := a) (by omega) (by omega) h1
  have hsp := upN_pos (N := metaN b c d + 4) (a := a) (by omega) (by omega)
  unfold metaS; omega
theorem sizeOk_of {a b c d m : Int} (hg : geomB a b c d = true) (h0 : 0 ≤ m) (h1 : m ≤ 65536) : sizeOk m a = true := by
  obtain ⟨hw, -⟩ := geomB_in hg
  simp [sizeOk, hw, h0, h1]
theorem stepsN_bd {m a : Int} (hk : sizeOk m a = true) : 0 ≤ stepsN m a ∧ stepsN m a ≤ 160000 := by
  simp only [sizeOk, Bool.and_eq_true, decide_eq_true_eq] at hk
  obtain ⟨⟨h0, h1⟩, hw⟩ := hk
  have hs : 64 ≤ a ∧ a ≤ 256 := by simp only [wideB, Bool.and_eq_true, decide_eq_true_eq] at hw; exact hw.1
  have hb := index_bd h0 h1 hs.1
  unfold stepsN sizeN
  omega
set_option maxHeartbeats 2000000 in
theorem bound_change (w : World) (a b c d k : Int) :
    Calls Try.prog 61 #[.agg #[.int .i64 a, .int .i64 b, .int .i64 c, .int .i64 d], .int .i64 k] w fun e w' => e = .returned (.int .i64 (changeN a b c d k)) ∧ Below w.heap.size w w' := by
  have HM := Lib.hid fun W => bound_meta W a b c d
  cases hg : geomB a b c d
  · have HV : Hid (changeN a b c d k = 0) := Lib.hid (by simp [changeN, hg])
    have hm : metaB a b c d = 0 := by simp [metaB, hg]
    rw [hm] at HM
    clear hg hm
    go_enter Try.func61, Try.ntmps61
    go_wp2_with fail
    refine (HM.out _).mono ?_
    rintro e w1 ⟨rfl, hb1⟩
    go_wp2
    go_ret
    exact ⟨ret_int (by rw [HV.out]), ((Below.refl _ _).alloc (Nat.le_refl _) _).trans (hb1.mono (by simp))⟩
  · have hm : metaB a b c d = metaS a b c d := by simp [metaB, hg]
    rw [hm] at HM
    obtain ⟨hb, hb'⟩ := metaS_bd hg
    have hz : (metaS a b c d == 0) = false := by simp; omega
    cases hk : changesB k
    · have HV : Hid (changeN a b c d k = 0) := Lib.hid (by simp [changeN, hk])
      have HK := Lib.hid hk
      clear hg hk
      generalize metaS a b c d = s at *
      go_enter Try.func61, Try.ntmps61
      go_wp2_with fail
      refine (HM.out _).mono ?_
      rintro e w1 ⟨rfl, hb1⟩
      go_wp2_with (go_at_call 116; refine (op_changes _ _ HK.out).mono ?_; rintro e w2 ⟨rfl, rfl⟩)
      go_ret
      exact ⟨ret_int (by rw [HV.out]), ((Below.refl _ _).alloc (Nat.le_refl _) _).trans (hb1.mono (by simp))⟩
    · have HK := Lib.hid hk
      have hok := Lib.hid (sizeOk_of (m := metaS a b c d) hg (by omega) (by omega))
      have hok1 := Lib.hid (sizeOk_of (m := metaS a b c d + 1) hg (by omega) (by omega))
      by_cases h8 : k = 8
      · have h8' : (k == 8) = true := by simp [h8]
        have HV : Hid (changeN a b c d k = sizeN (metaS a b c d + 1) a + (metaS a b c d + 1) + 4) := Lib.hid (by simp only [changeN, hk, hg, Bool.and_self, if_true, if_pos h8, stepsN])
        clear hg hk h8
        generalize metaS a b c d = s at *
        go_enter Try.func61, Try.ntmps61
        go_wp2_with fail
        refine (HM.out _).mono ?_
        rintro e w1 ⟨rfl, hb1⟩
        obtain ⟨hc, hf⟩ := bcell hb1
        go_wp2_with (first | (go_at_call 116; refine (op_changes _ _ HK.out).mono ?_; rintro e w2 ⟨rfl, rfl⟩) | (go_at_call 117; refine (txn_steps _ _ _ hok1.out).mono ?_; rintro e w2 ⟨rfl, rfl⟩))
        go_ret
        exact ⟨ret_int (by rw [HV.out]), ((Below.refl _ _).alloc (Nat.le_refl _) _).trans (hb1.mono (by simp))⟩
      · have h8' : (k == 8) = false := by simp [h8]
        have HV : Hid (changeN a b c d k = sizeN (metaS a b c d) a + metaS a b c d + 4) := Lib.hid (by simp only [changeN, hk, hg, Bool.and_self, if_true, if_neg h8, stepsN])
        clear hg hk h8
        generalize metaS a b c d = s at *
        go_enter Try.func61, Try.ntmps61
        go_wp2_with fail
        refine (HM.out _).mono ?_
        rintro e w1 ⟨rfl, hb1⟩
        obtain ⟨hc, hf⟩ := bcell hb1
        go_wp2_with (first | (go_at_call 116; refine (op_changes _ _ HK.out).mono ?_; rintro e w2 ⟨rfl, rfl⟩) | (go_at_call 117; refine (txn_steps _ _ _ hok.out).mono ?_; rintro e w2 ⟨rfl, rfl⟩))
        go_ret
        exact ⟨ret_int (by rw [HV.out]), ((Below.refl _ _).alloc (Nat.le_refl _) _).trans (hb1.mono (by simp))⟩

def formatN (a b c d : Int) : Int := if geomB a b c d then 3 + stepsN (metaS a b c d) a else 0
def mountN (a b c d : Int) : Int := if geomB a b c d then metaS a b c d + 2 else 0
set_option maxHeartbeats 2000000 in
theorem bound_format (w : World) (a b c d : Int) :
    Calls Try.prog 62 #[.agg #[.int .i64 a, .int .i64 b, .int .i64 c, .int .i64 d]] w fun e w' => e = .returned (.int .i64 (formatN a b c d)) ∧ Below w.heap.size w w' := by
  have HM := Lib.hid fun W => bound_meta W a b c d
  cases hg : geomB a b c d
  · have HV : Hid (formatN a b c d = 0) := Lib.hid (by simp [formatN, hg])
    have hm : metaB a b c d = 0 := by simp [metaB, hg]
    rw [hm] at HM
    clear hg hm
    go_enter Try.func62, Try.ntmps62
    go_wp2_with fail
    refine (HM.out _).mono ?_
    rintro e w1 ⟨rfl, hb1⟩
    go_wp2
    go_ret
    exact ⟨ret_int (by rw [HV.out]), ((Below.refl _ _).alloc (Nat.le_refl _) _).trans (hb1.mono (by simp))⟩
  · have hm : metaB a b c d = metaS a b c d := by simp [metaB, hg]
    rw [hm] at HM
    obtain ⟨hb, hb'⟩ := metaS_bd hg
    have hz : (metaS a b c d == 0) = false := by simp; omega
    have hok := Lib.hid (sizeOk_of (m := metaS a b c d) hg (by omega) (by omega))
    have HV : Hid (formatN a b c d = 3 + stepsN (metaS a b c d) a) := Lib.hid (by simp [formatN, hg])
    clear hg
    generalize metaS a b c d = s at *
    have hbd := stepsN_bd hok.out
    have HS : Hid (∀ W, Calls Try.prog 117 #[.int .i64 s, .int .i64 a] W fun e w' => e = .returned (.int .i64 (stepsN s a)) ∧ W = w') := Lib.hid fun W => txn_steps W s a hok.out
    generalize stepsN s a = z at *
    go_enter Try.func62, Try.ntmps62
    go_wp2_with fail
    refine (HM.out _).mono ?_
    rintro e w1 ⟨rfl, hb1⟩
    obtain ⟨hc, hf⟩ := bcell hb1
    go_wp2_with (go_at_call 117; refine (HS.out _).mono ?_; rintro e w2 ⟨rfl, rfl⟩)
    refine (bound_sum (l := [3, z]) (Sl.ints [3, z] (heap_alloc_new _ _) (by simp <;> omega) (by simp)) (by simp <;> omega) (by simp)).mono ?_
    rintro e w2 ⟨rfl, rfl⟩
    go_wp2
    go_ret
    exact ⟨ret_int (by rw [HV.out]), (((Below.refl _ _).alloc (Nat.le_refl _) _).trans (hb1.mono (by simp))).alloc (by have := hb1.size; simp at this; omega) _⟩
set_option maxHeartbeats 2000000 in
theorem bound_mount (w : World) (a b c d : Int) :
    Calls Try.prog 63 #[.agg #[.int .i64 a, .int .i64 b, .int .i64 c, .int .i64 d]] w fun e w' => e = .returned (.int .i64 (mountN a b c d)) ∧ Below w.heap.size w w' := by
  have HM := Lib.hid fun W => bound_meta W a b c d
  cases hg : geomB a b c d
  · have HV : Hid (mountN a b c d = 0) := Lib.hid (by simp [mountN, hg])
    have hm : metaB a b c d = 0 := by simp [metaB, hg]
    rw [hm] at HM
    clear hg hm
    go_enter Try.func63, Try.ntmps63
    go_wp2_with fail
    refine (HM.out _).mono ?_
    rintro e w1 ⟨rfl, hb1⟩
    go_wp2
    go_ret
    exact ⟨ret_int (by rw [HV.out]), ((Below.refl _ _).alloc (Nat.le_refl _) _).trans (hb1.mono (by simp))⟩
  · have hm : metaB a b c d = metaS a b c d := by simp [metaB, hg]
    rw [hm] at HM
    obtain ⟨hb, hb'⟩ := metaS_bd hg
    have hz : (metaS a b c d == 0) = false := by simp; omega
    have HV : Hid (mountN a b c d = metaS a b c d + 2) := Lib.hid (by simp [mountN, hg])
    clear hg
    generalize metaS a b c d = s at *
    go_enter Try.func63, Try.ntmps63
    go_wp2_with fail
    refine (HM.out _).mono ?_
    rintro e w1 ⟨rfl, hb1⟩
    go_wp2_with fail
    refine (bound_sum (l := [s, 2]) (Sl.ints [s, 2] (heap_alloc_new _ _) (by simp <;> omega) (by simp)) (by simp <;> omega) (by simp)).mono ?_
    rintro e w2 ⟨rfl, rfl⟩
    go_wp2
    go_ret
    exact ⟨ret_int (by rw [HV.out]), (((Below.refl _ _).alloc (Nat.le_refl _) _).trans (hb1.mono (by simp))).alloc (by have := hb1.size; simp at this; omega) _⟩
end Go.Proofs.Ytdpbacmophaheaa
