/- Contracts: how many nodes a space's tree has, level by level. -/
import Derived.Test.YtdpbacmophaheaaM6
import Derived.Test.YtdpbacmophaheaaR2
import Derived.OwnWalkIn
import Derived.TacticsInMore
import Derived.LoopNIn
import Derived.LoopIn
namespace Go.Proofs.Ytdpbacmophaheaa
open Go.RowKit

def depthN (n : Nat) : Nat := if n ≤ 4 then 1 else if n ≤ 16 then 2 else if n ≤ 64 then 3 else if n ≤ 256 then 4 else if n ≤ 1024 then 5 else 6
def cntN (n l : Nat) : Nat := (n + 4 ^ (depthN n - l) - 1) / 4 ^ (depthN n - l)
def sumC (n : Nat) : Nat → Nat
  | 0 => 0
  | k + 1 => sumC n k + cntN n (k + 1)
def p4 (k : Nat) : Int := ((4 ^ k : Nat) : Int)
theorem p4_succ (k : Nat) : p4 (k + 1) = p4 k * 4 := by simp [p4, Nat.pow_succ]
theorem p4_0 : p4 0 = 1 := rfl
theorem p4_bd {k : Nat} (h : k ≤ 6) : 1 ≤ p4 k ∧ p4 k ≤ 4096 := by
  match k, h with
  | 0, _ => decide
  | 1, _ => decide
  | 2, _ => decide
  | 3, _ => decide
  | 4, _ => decide
  | 5, _ => decide
  | 6, _ => decide
theorem depthN_bd (n : Nat) : 1 ≤ depthN n ∧ depthN n ≤ 6 := by unfold depthN; (repeat' split) <;> omega
theorem p4_lt {n k : Nat} (hn : n ≤ 4096) (h1 : 1 ≤ k) (h2 : k ≤ depthN n) : p4 k < n ↔ k < depthN n := by
  have hd := depthN_bd n
  have h6 : k ≤ 6 := by omega
  have e : depthN n = if n ≤ 4 then 1 else if n ≤ 16 then 2 else if n ≤ 64 then 3 else if n ≤ 256 then 4 else if n ≤ 1024 then 5 else 6 := rfl
  match k, h1, h6 with
  | 1, _, _ => show (4 : Int) < n ↔ _; (repeat' split at e) <;> omega
  | 2, _, _ => show (16 : Int) < n ↔ _; (repeat' split at e) <;> omega
  | 3, _, _ => show (64 : Int) < n ↔ _; (repeat' split at e) <;> omega
  | 4, _, _ => show (256 : Int) < n ↔ _; (repeat' split at e) <;> omega
  | 5, _, _ => show (1024 : Int) < n ↔ _; (repeat' split at e) <;> omega
  | 6, _, _ => show (4096 : Int) < n ↔ _; (repeat' split at e) <;> omega
theorem cntN_int (n l : Nat) : ((n : Int) + p4 (depthN n - l) - 1) / p4 (depthN n - l) = (cntN n l : Int) := by
  have hp : 1 ≤ 4 ^ (depthN n - l) := Nat.pow_pos (by omega)
  have e : (n : Int) + p4 (depthN n - l) - 1 = ((n + 4 ^ (depthN n - l) - 1 : Nat) : Int) := by unfold p4; omega
  rw [e]
  rfl
theorem cntN_bd {n l : Nat} (hn : n ≤ 4096) : cntN n l ≤ 8192 := by
  unfold cntN
  have hp : 1 ≤ 4 ^ (depthN n - l) := Nat.pow_pos (by omega)
  have := (p4_bd (k := depthN n - l) (by have := depthN_bd n; omega)).2
  have h2 : 4 ^ (depthN n - l) ≤ 4096 := by unfold p4 at this; omega
  exact Nat.le_trans (Nat.div_le_self _ _) (by omega)
theorem sumC_bd {n : Nat} (hn : n ≤ 4096) : ∀ k, sumC n k ≤ k * 8192
  | 0 => by simp [sumC]
  | k + 1 => by have := sumC_bd hn k; have := cntN_bd (l := k + 1) hn; simp only [sumC]; omega

set_option maxHeartbeats 400000 in
theorem path_may (w : World) (n : Int) {r : Bool} (hr : (decide (1 ≤ n) && decide (n ≤ 4096)) = r) :
    Calls Try.prog 173 #[.int .i64 n] w fun e w' => e = .returned (.bool r) ∧ w = w' := by
  have HR := Lib.hid hr; clear hr
  go_enter Try.func173, Try.ntmps173
  go_wp2
  all_goals
    go_ret
    exact ⟨ret_bool (by rw [← HR.out]; simp [*] <;> omega), rfl⟩
theorem may_of {n : Nat} (h1 : 1 ≤ n) (h2 : n ≤ 4096) : (decide (1 ≤ (n : Int)) && decide ((n : Int) ≤ 4096)) = true := by simp; omega
set_option maxHeartbeats 1000000 in
theorem path_depth (w : World) (n : Nat) (h1 : 1 ≤ n) (h2 : n ≤ 4096) :
    Calls Try.prog 172 #[.int .i64 n] w fun e w' => e = .returned (.int .i64 (depthN n)) ∧ w = w' := by
  have HL := Lib.hid fun k (h : 1 ≤ k ∧ k ≤ depthN n) => p4_lt h2 h.1 h.2
  have hd := depthN_bd n
  have HE : Hid (p4 1 = 4) := Lib.hid rfl
  generalize depthN n = D at *
  have HM := Lib.hid (may_of h1 h2)
  go_enter Try.func172, Try.ntmps172
  go_wp2_with (go_at_call 173; refine (path_may _ _ HM.out).mono ?_; rintro e w1 ⟨rfl, rfl⟩)
  go_loop [3, 4] (fun d r => ∃ k : Nat, 1 ≤ k ∧ k ≤ D ∧ d = .int .i64 k ∧ r = .int .i64 (p4 k)) (fun d _ => (D - intOf d).toNat)
  case atStart => exact ⟨1, by omega, by omega, by simp, by rw [HE.out]⟩
  case round =>
    obtain ⟨k, hk1, hk2, rfl, rfl⟩ := hrel
    have hl := HL.out k ⟨hk1, hk2⟩
    obtain ⟨hp1, hp2⟩ := p4_bd (k := k) (by omega)
    have HS := Lib.hid (p4_succ k)
    by_cases hlt : k < D
    · have hlt' := hl.2 hlt
      clear hl
      generalize p4 k = p at *
      go_wp2
      go_round
      case rel => exact ⟨k + 1, by omega, by omega, by go_num, by rw [HS.out]⟩
      case measure => simp [intOf]; omega
    · have hlt' : ¬ p4 k < n := fun h => hlt (hl.1 h)
      have hkD : k = D := by omega
      subst hkD
      clear hl
      generalize p4 k = p at *
      go_wp2
      go_ret
      exact ⟨rfl, rfl⟩
set_option maxHeartbeats 1000000 in
theorem path_width (w : World) (n l : Nat) (h1 : 1 ≤ n) (h2 : n ≤ 4096) (hl : l ≤ depthN n) :
    Calls Try.prog 174 #[.int .i64 n, .int .i64 l] w fun e w' => e = .returned (.int .i64 (p4 (depthN n - l))) ∧ w = w' := by
  have HD := Lib.hid fun W => path_depth W n h1 h2
  have hd := depthN_bd n
  generalize depthN n = D at *
  obtain ⟨m, rfl⟩ : ∃ m, D = l + m := ⟨D - l, by omega⟩
  rw [Nat.add_sub_cancel_left]
  have e1 : ((l + m : Nat) : Int) - (l : Int) = (m : Int) := by omega
  go_enter Try.func174, Try.ntmps174
  go_wp2_with (go_at_call 172; refine (HD.out _).mono ?_; rintro e w1 ⟨rfl, rfl⟩)
  go_loop [5, 10] (fun r i => ∃ k : Nat, k ≤ m ∧ i = .int .i64 k ∧ r = .int .i64 (p4 k)) (fun _ i => (m - intOf i).toNat)
  case atStart => exact ⟨0, by omega, by simp, rfl⟩
  case round =>
    obtain ⟨k, hk, rfl, rfl⟩ := hrel
    obtain ⟨hp1, hp2⟩ := p4_bd (k := k) (by omega)
    have HS := Lib.hid (p4_succ k)
    by_cases hlt : k < m
    · generalize p4 k = p at *
      go_wp2
      go_round
      case rel => exact ⟨k + 1, by omega, by go_num, by rw [HS.out]⟩
      case measure => simp [intOf]; omega
    · have hkD : k = m := by omega
      subst hkD
      obtain ⟨p, hp⟩ : ∃ p, p4 k = p := ⟨_, rfl⟩
      rw [hp]
      have HPP := Lib.hid hp
      clear hp
      go_wp2
      go_ret
      exact ⟨ret_int HPP.out.symm, rfl⟩
set_option maxHeartbeats 1000000 in
theorem path_count (w : World) (n l : Nat) (h1 : 1 ≤ n) (h2 : n ≤ 4096) (hl : l ≤ depthN n) :
    Calls Try.prog 156 #[.int .i64 n, .int .i64 l] w fun e w' => e = .returned (.int .i64 (cntN n l)) ∧ w = w' := by
  have HD := Lib.hid fun W => path_depth W n h1 h2
  have HW := Lib.hid fun W => path_width W n l h1 h2 hl
  have HM := Lib.hid (may_of h1 h2)
  obtain ⟨hp1, hp2⟩ := p4_bd (k := depthN n - l) (by have := depthN_bd n; omega)
  have HC := Lib.hid (cntN_int n l)
  have hpz : (p4 (depthN n - l) == 0) = false := by simp; omega
  generalize p4 (depthN n - l) = p at *
  generalize depthN n = D at *
  go_enter Try.func156, Try.ntmps156
  go_wp2_with (first | (go_at_call 173; refine (path_may _ _ HM.out).mono ?_; rintro e w1 ⟨rfl, rfl⟩) | (go_at_call 172; refine (HD.out _).mono ?_; rintro e w1 ⟨rfl, rfl⟩) | (go_at_call 174; refine (HW.out _).mono ?_; rintro e w1 ⟨rfl, rfl⟩))
  go_ret
  exact ⟨ret_int HC.out, rfl⟩
set_option maxHeartbeats 400000 in
theorem path_levels (w : World) (n : Int) : Calls Try.prog 155 #[.int .i64 n] w fun e w' =>
    e = .returned (.func (.func 171) #[] #[.pointer (some ⟨w.heap.size, 0, none⟩)]) ∧ w.alloc (.cells #[.int .i64 n] 3) = w' := by
  go_enter Try.func155, Try.ntmps155
  go_wp2
  go_ret
  exact ⟨rfl, rfl⟩

set_option maxRecDepth 100000 in
set_option maxHeartbeats 1000000 in
theorem levels_seq {w : World} {n b n₀ bx : Nat} (h1 : 1 ≤ n) (h2 : n ≤ 4096) (hb : w.cell? ⟨b, 0, none⟩ = some (.int .i64 n)) (hb0 : b < n₀) (hbx : b ≠ bx) (hn0 : n₀ ≤ w.heap.size) :
    SeqMem2 Fence.wide 2 Try.prog 171 #[.pointer (some ⟨b, 0, none⟩)] (fun x : Int × Int => .int .i64 x.1) (fun x => .int .i64 x.2) n₀ bx
      (fun pre x _ => pre.length < depthN n ∧ x = ((pre.length : Int) + 1, (sumC n pre.length : Int))) (fun xs => xs.length = depthN n) w := by
  intro l J W hW hJ hY h0
  have hc := (hW.cell (p := ⟨b, 0, none⟩) (by simp; omega)).trans hb
  have hnW : n₀ ≤ W.heap.size := by have := hW.size; omega
  clear hb hW hn0
  have HD := Lib.hid fun W => path_depth W n h1 h2
  have HC := Lib.hid fun W l hl => path_count W n l h1 h2 hl
  have hd := depthN_bd n
  have HSB := Lib.hid fun k => sumC_bd h2 k
  have HCB := Lib.hid fun l => cntN_bd (l := l) h2
  have HSS : Hid (∀ k, sumC n (k + 1) = sumC n k + cntN n (k + 1)) := Lib.hid fun k => rfl
  generalize depthN n = D at *
  have HY := Lib.hid hY; clear hY
  have HJ := Lib.hid hJ; clear hJ
  have HJ0 := Lib.hid h0; clear h0
  refine callsIn_of_wp Try.func171 rfl trivial ?_ rfl
  simp only [Try.ntmps171, List.size_toArray, List.length_cons, List.length_nil, Nat.reduceAdd, Nat.reduceSub, Array.replicate_succ, Array.replicate_zero, List.push_toArray, List.append_toArray, List.nil_append, List.cons_append]
  gi_wp2
  gi_loopw [3, 4] (fun f i wr => ∃ (k : Nat) (pre : List (Int × Int)), k ≤ D ∧ i = .int .i64 ((k : Int) + 1) ∧ f = .int .i64 (sumC n k) ∧ pre.length = k ∧ J pre wr ∧ Bx n₀ bx W wr) (fun _ i _ => (D + 1 - intOf i).toNat)
  case atStart => exact ⟨0, [], by omega, rfl, rfl, rfl, HJ0.out, .refl _ _ _⟩
  case round =>
    obtain ⟨k, pre, hk, rfl, rfl, hpre, hJp, hbw⟩ := hrel
    have HP := Lib.hid hpre
    have HJP := Lib.hid hJp
    clear hpre hJp
    have hsz := hbw.size
    have hc' := (hbw.cell (p := ⟨b, 0, none⟩) hb0 hbx).trans hc
    have hbl : b < wr.heap.size := by omega
    have HBW := Lib.hid hbw
    clear hbw
    by_cases hlt : k < D
    · obtain ⟨fn, tmps, assign, body, hy, hR⟩ := HY.out pre ((k : Int) + 1, (sumC n k : Int)) wr HJP.out ⟨by rw [HP.out]; exact hlt, by rw [HP.out]⟩
      have hsb := HSB.out k
      have hcb := HCB.out (k + 1)
      have HS := Lib.hid (HSS.out k)
      have hck := Lib.hid fun W => HC.out W (k + 1) (by omega)
      rw [show ((k + 1 : Nat) : Int) = (k : Int) + 1 by omega] at hck
      dsimp only at hy
      have HYY := Lib.hid hy
      have HRR := Lib.hid hR
      clear hy hR
      generalize sumC n k = s at *
      generalize cntN n (k + 1) = q at *
      gi_wp2_with (refine ⟨trivial, ?_⟩; gi_at_call 172; refine (callsIn_wide.2 (HD.out _)).mono ?_; rintro e w2 ⟨rfl, rfl⟩)
      rw [HYY.out]
      gi_wp2
      refine HRR.out.mono ?_
      rintro e w3 ⟨rfl, hJ3, hb3⟩
      have hs3 := hb3.size
      have hc3 := (hb3.cell (p := ⟨b, 0, none⟩) hb0 hbx).trans hc'
      have HB3 := Lib.hid (HBW.out.trans hb3)
      have HJ3 := Lib.hid hJ3
      clear hb3 hJ3
      gi_wp2_with (refine ⟨trivial, ?_⟩; gi_at_call 156; refine (callsIn_wide.2 (hck.out _)).mono ?_; rintro e w4 ⟨rfl, rfl⟩)
      go_roundw
      case rel => exact ⟨k + 1, _, by omega, by go_num, by rw [HS.out]; go_num, by rw [List.length_append, HP.out]; rfl, HJ3.out, HB3.out⟩
      case measure => simp [intOf]; omega
    · gi_wp2_with (refine ⟨trivial, ?_⟩; gi_at_call 172; refine (callsIn_wide.2 (HD.out _)).mono ?_; rintro e w2 ⟨rfl, rfl⟩)
      go_end0
      exact ⟨⟨_, rfl⟩, pre, by rw [HP.out]; omega, HJP.out⟩
end Go.Proofs.Ytdpbacmophaheaa
