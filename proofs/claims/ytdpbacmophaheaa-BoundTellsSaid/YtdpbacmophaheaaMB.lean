/- Contract: how many bytes a state has (bound.Bytes). -/
import Derived.Test.YtdpbacmophaheaaMA
namespace Go.Proofs.Ytdpbacmophaheaa
open Go.RowKit

def goodX (x : Int) : Bool := decide (1 ≤ x) && decide (x ≤ 4096)
def costX (x : Int) : Int := 40 * (totN x.toNat : Int) + 32 * x
def costTo (l : List Int) (k : Nat) : Int := ((l.take k).map costX).sum
theorem costTo_succ {l : List Int} {k : Nat} (hk : k < l.length) : costTo l (k + 1) = costTo l k + costX l[k] := by
  unfold costTo
  rw [List.take_succ_eq_append_getElem hk, List.map_append, List.sum_append]; simp
theorem totN_bd {n : Nat} (h : n ≤ 4096) : totN n ≤ 49152 := by
  have := sumC_bd h (depthN n)
  have := (depthN_bd n).2
  unfold totN; omega
theorem costTo_bd {l : List Int} : ∀ {k : Nat}, (l.take k).all goodX = true → 0 ≤ costTo l k ∧ costTo l k ≤ k * 2200000
  | 0, _ => by simp [costTo]
  | k + 1, h => by
    by_cases hk : k < l.length
    · rw [List.take_succ_eq_append_getElem hk, List.all_append] at h
      simp only [Bool.and_eq_true, List.all_cons, List.all_nil, and_true] at h
      have ih := costTo_bd h.1
      have hg := h.2
      simp only [goodX, Bool.and_eq_true, decide_eq_true_eq] at hg
      have ht := totN_bd (n := l[k].toNat) (by omega)
      rw [costTo_succ hk]
      unfold costX
      omega
    · rw [List.take_of_length_le (by omega)] at h
      have ih := costTo_bd (k := k) (l := l) (by rw [List.take_of_length_le (by omega)]; exact h)
      have e : costTo l (k + 1) = costTo l k := by unfold costTo; rw [List.take_of_length_le (by omega), List.take_of_length_le (by omega)]
      rw [e]; omega
def headN (t : Int) (n : Nat) (e : Int) : Int := 42 + 37 * t + 54 * n + 8 * e
def guardN (t : Int) (n : Nat) (e : Int) : Bool := (decide (0 ≤ t) && decide (t ≤ 16)) && decide (n ≤ 64) && (decide (0 ≤ e) && decide (e ≤ 1048576))
def bytesN (t : Int) (l : List Int) (e : Int) : Int := if guardN t l.length e && l.all goodX then headN t l.length e + costTo l l.length else 0

section
variable {w : World} {F G : Nat → Prop} {A B : Option Addr} {n c m d : Nat}
set_option maxHeartbeats 1000000 in
theorem bound_bytes_not {t e : Int} (hg : guardN t n e = false) :
    Calls Try.prog 65 #[.int .i64 t, .slice A n c, .int .i64 e] w fun r w' => r = .returned (.int .i64 0) ∧ Below w.heap.size w w' := by
  cases h1 : (decide (0 ≤ t) && decide (t ≤ 16)) <;> by_cases h2 : n ≤ 64 <;> cases h3 : (decide (0 ≤ e) && decide (e ≤ 1048576))
  all_goals
    first
    | (exfalso; rw [guardN, h1, decide_eq_true h2, h3] at hg; exact absurd hg (by decide))
    | skip
  all_goals
    have H1 := Lib.hid h1
    have H3 := Lib.hid h3
    clear h1 h3
    go_enter Try.func65, Try.ntmps65
    go_wp2_with (go_at_call 119; (first | (with_reducible refine (bound_within _ _ _ _ H1.out).mono ?_) | (with_reducible refine (bound_within _ _ _ _ H3.out).mono ?_)); rintro e w1 ⟨rfl, rfl⟩)
    all_goals first | (exfalso; omega) | (go_ret; exact ⟨rfl, .refl _ _⟩)
set_option maxRecDepth 100000 in
set_option maxHeartbeats 2000000 in
theorem bound_bytes_ok {l : List Int} {t e : Int} (h : Sl Enc.i64 w F A n c l) (hg : guardN t n e = true) :
    Calls Try.prog 65 #[.int .i64 t, .slice A n c, .int .i64 e] w fun r w' => r = .returned (.int .i64 (bytesN t l e)) ∧ Below w.heap.size w w' := by
  have hln := h.len
  have HV : Hid (∀ r, l.all goodX = r → bytesN t l e = if r then headN t n e + costTo l n else 0) := Lib.hid fun r hr => by rw [bytesN, hln, hg, hr]; rfl
  simp only [guardN, Bool.and_eq_true, decide_eq_true_eq] at hg
  obtain ⟨⟨⟨h1, h2⟩, h3⟩, h4, h5⟩ := hg
  have H1 : Hid ((decide (0 ≤ t) && decide (t ≤ 16)) = true) := Lib.hid (by simp; omega)
  have H3 : Hid ((decide (0 ≤ e) && decide (e ≤ 1048576)) = true) := Lib.hid (by simp; omega)
  have h64 : decide (64 < n) = false := by simp; omega
  have HH : Hid (headN t n e = 42 + 37 * t + 54 * n + 8 * e) := Lib.hid rfl
  have hh1 : 0 ≤ headN t n e ∧ headN t n e ≤ 9000000 := by rw [HH.out]; omega
  have HLN := Lib.hid hln
  clear hln
  go_enter Try.func65, Try.ntmps65
  go_wp2_with (go_at_call 119; (first | (with_reducible refine (bound_within _ _ _ _ H1.out).mono ?_) | (with_reducible refine (bound_within _ _ _ _ H3.out).mono ?_)); rintro e w1 ⟨rfl, rfl⟩)
  refine (bound_sum (l := [42, 37 * t, 54 * (n : Int), 8 * e]) (Sl.ints [42, 37 * t, 54 * (n : Int), 8 * e] (heap_alloc_at (by simp)) (by simp <;> omega) (by simp)) (by simp <;> omega) (by simp)).mono ?_
  rintro r w1 ⟨rfl, rfl⟩
  have HE : Hid (headN t n e = [42, 37 * t, 54 * (n : Int), 8 * e].sum) := Lib.hid (by rw [HH.out]; simp; omega)
  rw [← HE.out]
  have HB0 : Hid (Below w.heap.size w (w.alloc (.cells #[.int .i64 42, .int .i64 (37 * t), .int .i64 (54 * (n : Int)), .int .i64 (8 * e)] 3))) := Lib.hid ((Below.refl _ _).alloc (Nat.le_refl _) _)
  go_wp2
  generalize headN t n e = H0 at *
  go_loopw [7, 34] (fun s i wr => ∃ k : Nat, k ≤ n ∧ i = .int .i64 k ∧ s = .int .i64 (H0 + costTo l k) ∧ (l.take k).all goodX = true ∧ Below w.heap.size w wr) (fun _ i _ => n - (intOf i).toNat)
  case atStart => exact ⟨0, by omega, by simp, by simp [costTo], by simp, HB0.out⟩
  case round =>
    obtain ⟨k, hk, rfl, rfl, ht, hd⟩ := hrel
    have hsz := hd.size
    have hcb := costTo_bd ht
    replace h := h.all hd
    have HT := Lib.hid ht
    clear ht
    by_cases hlt : k < n
    · have hka := h.lt hlt
      obtain ⟨ad, rfl, -, hca⟩ := h.int k hka
      have HS := Lib.hid (costTo_succ hka)
      obtain ⟨x, hx⟩ : ∃ x, l[k] = x := ⟨_, rfl⟩
      rw [hx] at hca HS
      have HX := Lib.hid hx
      have HHH := Lib.hid h
      have HD := Lib.hid hd
      clear h hx hd
      cases hq : (decide (1 ≤ x) && decide (x ≤ 4096))
      · have HQ := Lib.hid hq
        have HA : Hid (l.all goodX = false) := Lib.hid (all_false hka (by rw [HX.out]; exact hq))
        clear hq hcb
        go_wp2_with (go_at_call 119; refine (bound_within _ _ _ _ HQ.out).mono ?_; rintro e w1 ⟨rfl, rfl⟩)
        go_ret
        exact ⟨ret_int (by rw [HV.out _ HA.out]; rfl), HD.out⟩
      · have HQ := Lib.hid hq
        have HGX : Hid (goodX l[k] = true) := Lib.hid (by rw [HX.out]; exact hq)
        have hqq := hq
        simp only [Bool.and_eq_true, decide_eq_true_eq] at hqq
        obtain ⟨hx1, hx2⟩ := hqq
        obtain ⟨y, rfl⟩ : ∃ y : Nat, x = (y : Int) := ⟨x.toNat, by omega⟩
        have htb := totN_bd (n := y) (by omega)
        have HP := Lib.hid fun W => path_total W y (by omega) (by omega)
        have HC : Hid (costX (y : Int) = 40 * (totN y : Int) + 32 * y) := Lib.hid (by simp [costX])
        generalize totN y = T at *
        generalize costTo l k = C at *
        clear hq
        go_wp2_with (go_at_call 119; refine (bound_within _ _ _ _ HQ.out).mono ?_; rintro e w1 ⟨rfl, rfl⟩)
        refine (HP.out _).mono ?_
        rintro r w2 ⟨rfl, hb2⟩
        go_wp2_with fail
        refine (bound_sum (l := [H0 + C, 40 * (T : Int), 32 * (y : Int)]) (Sl.ints [H0 + C, 40 * (T : Int), 32 * (y : Int)] (heap_alloc_at (by simp)) (by simp <;> omega) (by simp)) (by simp <;> omega) (by simp)).mono ?_
        rintro r w3 ⟨rfl, rfl⟩
        have HB2 : Hid (Below w.heap.size w (w2.alloc (.cells #[.int .i64 (H0 + C), .int .i64 (40 * (T : Int)), .int .i64 (32 * (y : Int))] 3))) := Lib.hid ((HD.out.trans (hb2.mono hsz)).alloc (by have := hb2.size; omega) _)
        have HSM : Hid ([H0 + C, 40 * (T : Int), 32 * (y : Int)].sum = H0 + (C + costX y)) := Lib.hid (by rw [HC.out]; simp; omega)
        rw [HSM.out]
        clear hb2
        go_wp2
        go_roundw
        case rel => exact ⟨k + 1, by omega, by go_num, by rw [HS.out], all_take_succ hka HT.out HGX.out, HB2.out⟩
        case measure => simp [intOf] <;> omega
    · have hkn : k = n := by omega
      subst hkn
      have HA : Hid (l.all goodX = true) := Lib.hid (all_done (by rw [HLN.out]; omega) HT.out)
      go_wp2
      go_ret
      exact ⟨ret_int (by rw [HV.out _ HA.out]; rfl), hd⟩
theorem bound_bytes {l : List Int} {t e : Int} (h : Sl Enc.i64 w F A n c l) :
    Calls Try.prog 65 #[.int .i64 t, .slice A n c, .int .i64 e] w fun r w' => r = .returned (.int .i64 (bytesN t l e)) ∧ Below w.heap.size w w' := by
  cases hg : guardN t n e
  · have : bytesN t l e = 0 := by rw [bytesN, h.len, hg]; rfl
    rw [this]
    exact bound_bytes_not hg
  · exact bound_bytes_ok h hg
end
end Go.Proofs.Ytdpbacmophaheaa
