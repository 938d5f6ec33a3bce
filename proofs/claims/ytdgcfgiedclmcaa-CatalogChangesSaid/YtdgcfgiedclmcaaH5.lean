/- Contracts: law27.listed, catalog.Listed. -/
import Derived.Test.YtdgcfgiedclmcaaH4
import Derived.Test.YtdgcfgiedclmcaaC9
namespace Go.Proofs.Ytdgcfgiedclmcaa
open Go.RowKit

def lastId (l : List Space) : Nat → Int
  | 0 => 0
  | i + 1 => (l.getD i ⟨0, 0, 0, [], 0, 0, 0⟩).id
def goodId (l : List Space) (i : Nat) : Bool := decide (lastId l i < lastId l (i + 1)) && decide (lastId l (i + 1) ≤ 64)
def listedB (l : List Space) : Bool := (List.range l.length).all (goodId l)
theorem lastId_at {l : List Space} {i : Nat} (h : i < l.length) : lastId l (i + 1) = l[i].id := by simp [lastId, List.getD, h]

theorem lastId_nonneg {l : List Space} : ∀ {k : Nat}, (List.range k).all (goodId l) = true → 0 ≤ lastId l k
  | 0, _ => by simp [lastId]
  | k + 1, h => by
    rw [List.range_succ, List.all_append] at h
    simp only [Bool.and_eq_true, List.all_cons, List.all_nil, and_true] at h
    have h1 := lastId_nonneg h.1
    have h2 := h.2
    simp only [goodId, Bool.and_eq_true, decide_eq_true_eq] at h2
    omega

section
variable {w : World} {F G : Nat → Prop} {A B : Option Addr} {n c m d : Nat}
set_option maxHeartbeats 1000000 in
theorem law_listed {a : List Space} (h : Sl Enc.space w F A n c a) :
    Calls Try.prog 47 #[.slice A n c] w fun e w' => e = .returned (.bool (listedB a)) ∧ Below w.heap.size w w' := by
  have hn := h.max
  have hln := h.len
  generalize hr : listedB a = r
  have HR := Lib.hid hr; clear hr
  have HLN := Lib.hid hln; clear hln
  go_enter Try.func47, Try.ntmps47
  go_wp2
  go_loopw [3, 8] (fun lv i wr => ∃ k : Nat, k ≤ n ∧ i = .int .i64 k ∧ lv = .int .i64 (lastId a k) ∧ (List.range k).all (goodId a) = true ∧ Below w.heap.size w wr) (fun _ i _ => n - (intOf i).toNat)
  case atStart => exact ⟨0, by omega, by simp, by simp [lastId], by simp, .refl _ _⟩
  case round =>
    obtain ⟨k, hk, rfl, rfl, ht, hd⟩ := hrel
    have hsz := hd.size
    replace h := h.all hd
    have HT := Lib.hid ht; clear ht
    by_cases hlt : k < n
    · have hka := h.lt hlt
      obtain ⟨ad, Ar, nr, cr, Ae, ce, At, ct, As, cs, rfl, a0, a1, a2, a3, a4, a5, a6, -⟩ := h.space k hka
      have hli := lastId_at hka
      have hgd : goodId a k = (decide (lastId a k < lastId a (k + 1)) && decide (lastId a (k + 1) ≤ 64)) := rfl
      rw [hli] at hgd
      obtain ⟨p, hp⟩ : ∃ p, lastId a k = p := ⟨_, rfl⟩
      rw [hp] at hgd ⊢
      obtain ⟨x, hx⟩ : ∃ x, a[k].id = x := ⟨_, rfl⟩
      rw [hx] at a0 hgd hli
      have HA := Lib.hid h; have HLI := Lib.hid hli
      clear h hx hp hli
      by_cases h1 : p < x
      · by_cases h2 : x ≤ 64
        · have HX : Hid (goodId a k = true) := Lib.hid (by rw [hgd]; simp [h1, h2])
          clear hgd
          go_wp2
          go_roundw
          case rel => exact ⟨k + 1, by omega, by go_num, by rw [HLI.out], range_all_succ HT.out HX.out, hd.alloc hsz _⟩
          case measure => simp [intOf]; omega
        · have HX : Hid (listedB a = false) := Lib.hid (range_all_false hka (by rw [hgd]; simp; omega))
          clear hgd
          go_wp2
          go_ret
          exact ⟨ret_bool (by rw [← HR.out, HX.out]), hd.alloc hsz _⟩
      · have HX : Hid (listedB a = false) := Lib.hid (range_all_false hka (by rw [hgd]; simp; omega))
        have h1' : x ≤ p := by omega
        clear hgd h1
        go_wp2
        go_ret
        exact ⟨ret_bool (by rw [← HR.out, HX.out]), hd.alloc hsz _⟩
    · have HX : Hid (listedB a = true) := Lib.hid (by
        have hkn : k = n := by omega
        have := HT.out
        rw [hkn, ← HLN.out] at this
        exact this)
      go_wp2
      go_ret
      exact ⟨ret_bool (by rw [← HR.out, HX.out]), hd⟩

set_option maxHeartbeats 1000000 in
theorem cat_listed {a : List Space} (h : Sl Enc.space w F A n c a) :
    Calls Try.prog 46 #[.slice A n c] w fun e w' => e = .returned (.bool (listedB a)) ∧ Below w.heap.size w w' := by
  have hn := h.max
  have hln := h.len
  generalize hr : listedB a = r
  have HR := Lib.hid hr; clear hr
  have HLN := Lib.hid hln; clear hln
  go_enter Try.func46, Try.ntmps46
  go_wp2
  go_loopw [7] (fun i wr => ∃ k : Nat, k ≤ n ∧ i = .int .i64 k ∧ (List.range k).all (goodId a) = true ∧ Below w.heap.size w wr) (fun i _ => n - (intOf i).toNat)
  case atStart => exact ⟨0, by omega, by simp, by simp, .refl _ _⟩
  case round =>
    obtain ⟨k, hk, rfl, ht, hd⟩ := hrel
    have hsz := hd.size
    replace h := h.all hd
    by_cases hlt : k < n
    · have hka := h.lt hlt
      obtain ⟨ad, Ar, nr, cr, Ae, ce, At, ct, As, cs, rfl, a0, a1, a2, a3, a4, a5, a6, -⟩ := h.space k hka
      have hli := lastId_at hka
      have hgd : goodId a k = (decide (lastId a k < lastId a (k + 1)) && decide (lastId a (k + 1) ≤ 64)) := rfl
      rw [hli] at hgd
      obtain ⟨x, hx⟩ : ∃ x, a[k].id = x := ⟨_, rfl⟩
      rw [hx] at a0 hgd
      have HM := Lib.hid fun (W : World) => cat_may W x
      have HT := Lib.hid ht
      have hbx : Below w.heap.size w (wr.alloc (.cells #[.int .i64 x, .int .i64 a[k].tenant, .int .i64 a[k].sectors, .slice Ar nr cr, .slice Ae a[k].ext ce, .slice At a[k].tree ct, .slice As a[k].sums cs] 77)) := hd.alloc hsz _
      have HBX := Lib.hid hbx
      have hge := lastId_nonneg ht
      obtain ⟨x1, hx1⟩ : ∃ x1, a[k].tenant = x1 := ⟨_, rfl⟩
      obtain ⟨x2, hx2⟩ : ∃ x2, a[k].sectors = x2 := ⟨_, rfl⟩
      obtain ⟨x4, hx4⟩ : ∃ x4, a[k].ext = x4 := ⟨_, rfl⟩
      obtain ⟨x5, hx5⟩ : ∃ x5, a[k].tree = x5 := ⟨_, rfl⟩
      obtain ⟨x6, hx6⟩ : ∃ x6, a[k].sums = x6 := ⟨_, rfl⟩
      rw [hx1] at a1 HBX; rw [hx2] at a2 HBX; rw [hx4] at a4 HBX; rw [hx5] at a5 HBX; rw [hx6] at a6 HBX
      have HH := Lib.hid h
      clear h ht hx1 hx2 hx4 hx5 hx6 hbx hli hx
      by_cases hm : 1 ≤ x ∧ x ≤ 64
      · obtain ⟨hm1, hm2⟩ := hm
        simp only [hm1, hm2, decide_true, Bool.and_self] at HM
        rcases Nat.eq_zero_or_pos k with hk0 | hk0
        · have hl0 : lastId a k = 0 := by rw [hk0]; rfl
          have HX : Hid (goodId a k = true) := Lib.hid (by rw [hgd, hl0]; simp <;> omega)
          have hkd : decide (0 < k) = false := by simp [hk0]
          clear hgd hge hl0 hk0
          go_wp2
          go_quiet ((go_at_call 86; exact quiet_dr (HM.out _)))
          go_wp2
          go_roundw
          case rel => exact ⟨k + 1, by omega, by go_num, range_all_succ HT.out HX.out, below_drewN HBX.out _⟩
          case measure => simp [intOf]; omega
        · obtain ⟨k', hk'⟩ : ∃ k', k = k' + 1 := ⟨k - 1, by omega⟩
          have hkp : k' < a.length := by omega
          obtain ⟨ad', _, _, _, _, _, _, _, _, _, eA, b0, -⟩ := HH.out.space k' hkp
          cases eA
          rw [show lastId a k = a[k'].id by rw [hk']; exact lastId_at hkp] at hgd
          obtain ⟨p, hp⟩ : ∃ p, a[k'].id = p := ⟨_, rfl⟩
          rw [hp] at b0 hgd
          have e1 : (k : Int) - 1 = (k' : Int) := by omega
          have e2 : IntKind.i64.wrap (k' : Int) = (k' : Int) := IntWalk.i64_in _ (by omega)
          have hbl := (Bc.of_cell b0).lt
          have hkn' : k' < n := by omega
          have hkd : decide (0 < k) = true := by simp; omega
          have HK' := Lib.hid hk'
          clear hp hge hk'
          by_cases hpx : p < x
          · have HX : Hid (goodId a k = true) := Lib.hid (by rw [hgd]; simp <;> omega)
            have hpd : decide (x ≤ p) = false := by simp; omega
            clear hgd
            go_wp2
            go_quiet ((go_at_call 86; exact quiet_dr (HM.out _)))
            go_wp2
            go_roundw
            case rel => exact ⟨k + 1, by omega, by go_num, range_all_succ HT.out HX.out, below_drewN HBX.out _⟩
            case measure => simp [intOf]; omega
          · have HX : Hid (listedB a = false) := Lib.hid (range_all_false hka (by rw [hgd]; simp; omega))
            have hpd : decide (x ≤ p) = true := by simp; omega
            clear hgd
            go_wp2
            go_quiet ((go_at_call 86; exact quiet_dr (HM.out _)))
            go_wp2
            go_ret
            exact ⟨ret_bool (by rw [← HR.out, HX.out]), below_drewN HBX.out _⟩
      · have HX : Hid (listedB a = false) := Lib.hid (range_all_false hka (by rw [hgd]; simp; omega))
        have hmf : (decide (1 ≤ x) && decide (x ≤ 64)) = false := by
          by_cases h1 : 1 ≤ x
          · have : ¬ x ≤ 64 := fun h2 => hm ⟨h1, h2⟩
            simp [this]
          · simp [h1]
        rw [hmf] at HM
        clear hgd hge hm hmf
        go_wp2
        go_quiet ((go_at_call 86; exact quiet_dr (HM.out _)))
        go_wp2
        go_ret
        exact ⟨ret_bool (by rw [← HR.out, HX.out]), below_drewN HBX.out _⟩
    · have HX : Hid (listedB a = true) := Lib.hid (by
        have hkn : k = n := by omega
        rw [hkn, ← HLN.out] at ht
        exact ht)
      clear ht
      go_wp2
      go_ret
      exact ⟨ret_bool (by rw [← HR.out, HX.out]), hd⟩
end
end Go.Proofs.Ytdgcfgiedclmcaa
