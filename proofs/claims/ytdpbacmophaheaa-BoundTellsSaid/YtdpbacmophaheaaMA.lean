/- Contracts: the document's counts of a tree's nodes; how many bytes a state has. -/
import Derived.Test.YtdpbacmophaheaaM9
namespace Go.Proofs.Ytdpbacmophaheaa
open Go.RowKit

def upL (n : Nat) : Nat → Nat
  | 0 => n
  | j + 1 => (upL n j + 3) / 4
def upTo (n j : Nat) : List Int := (List.range j).map fun i => (upL n i : Int)
theorem upTo_succ (n j : Nat) : upTo n (j + 1) = upTo n j ++ [(upL n j : Int)] := by simp [upTo, List.range_succ]
theorem upTo_length (n j : Nat) : (upTo n j).length = j := by simp [upTo]
theorem upTo_get {n j q : Nat} (h : q < j) : (upTo n j)[q]'(by rw [upTo_length]; exact h) = (upL n q : Int) := by simp [upTo]
def revTo (n j m : Nat) : List Int := (upTo n (j + 1)).reverse.take m
theorem revTo_length {n j m : Nat} (h : m ≤ j + 1) : (revTo n j m).length = m := by simp [revTo, upTo_length]; omega
theorem revTo_succ {n j m : Nat} (h : m ≤ j) : revTo n j (m + 1) = revTo n j m ++ [(upL n (j - m) : Int)] := by
  unfold revTo
  rw [List.take_succ_eq_append_getElem (by simp [upTo_length]; omega), List.getElem_reverse]
  congr 2
  have hl := upTo_length n (j + 1)
  rw [upTo_get (by omega)]
  congr 2
  omega
def countsN (n : Nat) : List Int := (upTo n (depthN n + 1)).reverse
/-- a finite check, by halves -/
def halves (p : Nat → Bool) : Nat → Nat → Bool
  | 0, lo => p lo
  | d + 1, lo => halves p d lo && halves p d (lo + 2 ^ d)
theorem of_halves {p : Nat → Bool} : ∀ {d lo : Nat}, halves p d lo = true → ∀ x, lo ≤ x → x < lo + 2 ^ d → p x = true
  | 0, lo, h, x, h1, h2 => by
    have : x = lo := by simp at h2; omega
    subst this; exact h
  | d + 1, lo, h, x, h1, h2 => by
    simp only [halves, Bool.and_eq_true] at h
    rw [Nat.pow_succ] at h2
    by_cases hx : x < lo + 2 ^ d
    · exact of_halves h.1 x h1 hx
    · exact of_halves h.2 x (by omega) (by omega)
def upOk (n : Nat) : Bool := n == 0 || (((List.range (depthN n)).all fun j => j == 0 || upL n j != 1) && upL n (depthN n) == 1 && ((List.range (depthN n)).map (upL n)).sum == totN n)
theorem up_halves : halves upOk 12 1 = true := by decide +kernel
theorem up_all (n : Nat) (h1 : 1 ≤ n) (h : n ≤ 4096) : ((((List.range (depthN n)).all fun j => j == 0 || upL n j != 1) && upL n (depthN n) == 1 && ((List.range (depthN n)).map (upL n)).sum == totN n) = true) := by
  have := of_halves up_halves n h1 (by omega)
  simp only [upOk, Bool.or_eq_true, beq_iff_eq] at this
  rcases this with h0 | h0
  · omega
  · exact h0
theorem upL_bd {n : Nat} (hn : n ≤ 4096) (hn1 : 1 ≤ n) : ∀ j, 1 ≤ upL n j ∧ upL n j ≤ 4096
  | 0 => ⟨hn1, hn⟩
  | j + 1 => by have := upL_bd hn hn1 j; simp only [upL]; omega

set_option maxRecDepth 100000 in
set_option maxHeartbeats 1000000 in
theorem ref_counts (w : World) (n : Nat) (h1 : 1 ≤ n) (h2 : n ≤ 4096) :
    Calls Try.prog 64 #[.int .i64 n] w fun e w' => ∃ v, e = .returned v ∧ Own Enc.i64 3 w' w.heap.size (fun _ => False) v (countsN n) ∧ Below w.heap.size w w' := by
  have hall := up_all n h1 h2
  have hd := depthN_bd n
  have HCN : Hid (countsN n = (upTo n (depthN n + 1)).reverse) := Lib.hid rfl
  simp only [Bool.and_eq_true, beq_iff_eq, List.all_eq_true, List.mem_range, Bool.or_eq_true, bne_iff_ne] at hall
  obtain ⟨⟨hne, hend⟩, -⟩ := hall
  have HNE := Lib.hid hne
  have HEND := Lib.hid hend
  have HB := Lib.hid fun j => upL_bd h2 h1 j
  clear hne hend
  generalize depthN n = D at *
  go_enter Try.func64, Try.ntmps64
  go_wp2
  go_loopw [3, 4] (fun v k wr => ∃ j : Nat, j ≤ D ∧ k = .int .i64 (upL n j) ∧ Own Enc.i64 3 wr w.heap.size (fun _ => False) v (upTo n j) ∧ Below w.heap.size w wr) (fun v _ _ => match v with | .slice _ m _ => D + 1 - m | _ => 0)
  case atStart => exact ⟨0, by omega, rfl, Own.nil _ _ _ _, .refl _ _⟩
  case round =>
    obtain ⟨j, hj, rfl, ho, hb⟩ := hrel
    obtain ⟨hk1, hk2⟩ := HB.out j
    have hsz := hb.size
    have hne := HNE.out j
    have HE : j = D → upL n j = 1 := fun h => by rw [h]; exact HEND.out
    have HSU := Lib.hid (upTo_succ n j)
    have HUL : Hid (upL n (j + 1) = (upL n j + 3) / 4) := Lib.hid rfl
    obtain ⟨k, hk⟩ : ∃ k, upL n j = k := ⟨_, rfl⟩
    rw [hk] at hk1 hk2 hne HE HSU HUL ⊢
    have HLEN := Lib.hid (upTo_length n j)
    have HLEN1 := Lib.hid (upTo_length n (j + 1))
    obtain ⟨Av, cv, rfl, hcv, -, -⟩ := ho.form
    rw [HLEN.out] at ho ⊢ hcv
    have HO := Lib.hid ho
    clear ho hk
    by_cases hlast : j = D
    · have hke : k ≤ 1 := by have := HE hlast; omega
      have hjD : D ≤ j := by omega
      have hlt1 : decide ((1 : Int) < (j : Int) + 1) = true := by simp; omega
      clear HE hne hlast
      go_wp2_with (at_builtin; refine wpl_app (e := Enc.i64) (E := 3) (base := w.heap.size) rfl _ _ 105 rfl Try.underlying105 Try.infoInt rfl rfl rfl (HO.out.alloc _) (Sr.box (e := Enc.i64) (G := fun _ => False) (y := (k : Int)) ⟨rfl, WalkArith.wf_i64 (by omega)⟩ _) (fun _ _ h => h) (le_alloc hsz) (by omega) (by rw [HLEN.out]; omega) ?_; intro v1 w5 ho1 hg1 _ _; have ho2 := ho1.int; rw [← HSU.out] at ho2; obtain ⟨A1, c1, e1, hc1, -, -⟩ := ho2.form; rw [HLEN1.out] at e1 hc1; subst e1; have HO2 := Lib.hid ho2; have HG1 := Lib.hid hg1; clear ho1 ho2 hg1)
      all_goals first | (exfalso; omega) | skip
      rename (k : Int) = 1 => hke1
      clear hke1 hlt1
      have hb5 : Below w.heap.size w w5 := (hb.alloc hsz _).grown HG1.out (le_alloc hsz) (fun g hg => (HO.out.blk hg).1)
      have hs5 := hb5.size
      obtain ⟨A1', c1', e1', hsl⟩ := HO2.out.sl (F' := fun b => b < w5.heap.size) (fun _ h => h.elim) (fun g hg => (HO2.out.blk hg).2)
      rw [HLEN1.out] at hsl e1'
      cases e1'
      have HSL := Lib.hid hsl
      have HR : Hid (revTo n j (j + 1) = countsN n) := Lib.hid (by rw [HCN.out, revTo, show D = j by omega, List.take_of_length_le (by simp [upTo_length])])
      clear hsl HO HO2 HG1 hb HSU
      go_loopw [5, 6] (fun v i wr => ∃ m : Nat, m ≤ j + 1 ∧ i = .int .i64 ((m : Int) - 1) ∧ Own Enc.i64 3 wr w5.heap.size (fun _ => False) v (revTo n j (j + 1 - m)) ∧ Below w5.heap.size w5 wr) (fun _ i _ => (intOf i + 1).toNat)
      case atStart => exact ⟨j + 1, by omega, by go_num, by rw [Nat.sub_self]; exact Own.nil _ _ _ _, .refl _ _⟩
      case round =>
        obtain ⟨m, hm, rfl, ho, hb⟩ := hrel
        have hsz6 := hb.size
        rcases Nat.eq_zero_or_pos m with hm0 | hm0
        · have hmi : ((m : Int) - 1) ≤ -1 := by omega
          have HF : Hid (revTo n j (j + 1 - m) = countsN n) := Lib.hid (by rw [hm0, Nat.sub_zero, HR.out])
          have HO := Lib.hid ho
          clear ho hm0
          go_wp2
          go_ret
          refine ⟨_, rfl, ?_, hb5.trans (hb.mono hs5)⟩
          rw [← HF.out]
          exact HO.out.lower hs5
        · obtain ⟨q, hq⟩ : ∃ q, m = q + 1 := ⟨m - 1, by omega⟩
          have e1 : (m : Int) - 1 = (q : Int) := by omega
          rw [e1]
          have hqj : q ≤ j := by omega
          have hka : q < (upTo n (j + 1)).length := by rw [HLEN1.out]; omega
          obtain ⟨ad, rfl, -, hca⟩ := (HSL.out.all hb).int q hka
          have hcb : q < j + 1 := by omega
          rw [upTo_get hcb] at hca
          obtain ⟨hx1, hx2⟩ := HB.out q
          have HRS : Hid (revTo n j (j + 1 - q) = revTo n j (j + 1 - m) ++ [(upL n q : Int)]) := Lib.hid (by
            have := revTo_succ (n := n) (j := j) (m := j - q) (by omega)
            rw [show j + 1 - q = j - q + 1 by omega, this, show j - (j - q) = q by omega, show j + 1 - m = j - q by omega])
          have HRL : Hid ((revTo n j (j + 1 - m)).length ≤ 7) := Lib.hid (by rw [revTo_length (by omega)]; omega)
          generalize revTo n j (j + 1 - m) = R at *
          generalize upL n q = x at *
          have HO := Lib.hid ho
          clear ho hq hm0 e1 hm
          go_wp2_with (at_builtin; refine wpl_app (e := Enc.i64) (E := 3) (base := w5.heap.size) rfl _ _ 105 rfl Try.underlying105 Try.infoInt rfl rfl rfl (HO.out.alloc _) (Sr.box (e := Enc.i64) (G := fun _ => False) (y := (x : Int)) ⟨rfl, WalkArith.wf_i64 (by omega)⟩ _) (fun _ _ h => h) (le_alloc hsz6) (by omega) (by have := HRL.out; omega) ?_; intro v1 w6 ho1 hg1 _ _)
          have hb6 : Below w5.heap.size w5 w6 := (hb.alloc hsz6 _).grown hg1 (le_alloc hsz6) (fun g hg => (HO.out.blk hg).1)
          have HO1 := Lib.hid ho1.int
          clear ho1 hg1
          go_wp2
          go_roundw
          case rel => exact ⟨q, by omega, by go_num, by rw [HRS.out]; exact HO1.out, hb6⟩
          case measure => simp [intOf] <;> omega
    · have hjD : j < D := by omega
      have hne' := hne hjD
      have hkj : j ≤ 0 ∨ ¬ (k : Int) = 1 := by omega
      clear HE hne hne'
      rcases hkj with hkj | hkj
      all_goals
        go_wp2_with (at_builtin; refine wpl_app (e := Enc.i64) (E := 3) (base := w.heap.size) rfl _ _ 105 rfl Try.underlying105 Try.infoInt rfl rfl rfl (HO.out.alloc _) (Sr.box (e := Enc.i64) (G := fun _ => False) (y := (k : Int)) ⟨rfl, WalkArith.wf_i64 (by omega)⟩ _) (fun _ _ h => h) (le_alloc hsz) (by omega) (by rw [HLEN.out]; omega) ?_; intro v1 w5 ho1 hg1 _ _; have ho2 := ho1.int; rw [← HSU.out] at ho2; obtain ⟨A1, c1, e1, hc1, -, -⟩ := ho2.form; rw [HLEN1.out] at e1 hc1; subst e1; have HO2 := Lib.hid ho2; have HG1 := Lib.hid hg1; clear ho1 ho2 hg1)
        all_goals
          have hb5 : Below w.heap.size w w5 := (hb.alloc hsz _).grown HG1.out (le_alloc hsz) (fun g hg => (HO.out.blk hg).1)
          go_roundw
          case rel => exact ⟨j + 1, by omega, by rw [HUL.out]; go_num, HO2.out, hb5⟩
          case measure => simp; omega
end Go.Proofs.Ytdpbacmophaheaa
