/- Contract: crash.Count. -/
import Derived.Test.YtdgcfgiedclmcaaC5
import Derived.Test.YtdgcfgiedclmcaaF1
import Derived.Maps.OwnOps
import Derived.WalkKit
namespace Go.Proofs.Ytdgcfgiedclmcaa
open Go.RowKit Go.Maps

theorem keyedInt : Keyed Try.prog 3 := int_keyed Try.underlying3
theorem zeroInt (w : World) : (zeroValue 3).run Try.prog w = .ok (.int .i64 0) w := by kernel_rfl
abbrev OwnM (w : World) (b n : Nat) (D : DataW Unit) : Prop := w.ownsMap Try.prog 3 (plainElem Try.prog 3) b n D

theorem Sl.entryWf {w : World} {F : Nat → Prop} {A : Option Addr} {n c : Nat} {xs : List Entry} (h : Sl Enc.entry w F A n c xs) (i : Nat) (hi : i < xs.length) : (Lit.int .i64 xs[i].1).wf = true := by
  obtain ⟨ad, cs, hA, hF, ⟨v1, v2, rfl, ⟨rfl, hw⟩, _⟩, hc⟩ := h.get i hi
  exact hw
theorem sameKey_int (q : IntKind) (a b : Int) : (Lit.int q a).sameKey (.int q b) = decide (a = b) := by
  by_cases h : a = b
  · subst h; simpa using WideAt.sameKey_self (a := .int q a) trivial
  · rw [sameKey_ne (by intro e; injection e with _ e; exact h e)]; simp [h]

theorem quo_top0 {T : Int} {q u : Nat} (hT : 16384 ≤ T) (h : (q : Int) * ((u : Int) + 1) ≤ 16384) : (q : Int) ≤ T.tdiv ((u : Int) + 1) ∧ T.tdiv ((u : Int) + 1) ≤ T := by
  rw [Int.tdiv_eq_ediv_of_nonneg (by omega)]
  exact ⟨(Int.le_ediv_iff_mul_le (by omega)).2 (by omega), Int.ediv_le_self _ (by omega)⟩
theorem quo_top {q u : Nat} (h : (q : Int) * ((u : Int) + 1) ≤ 16384) : (q : Int) ≤ (1099511627776 : Int).tdiv ((u : Int) + 1) ∧ (1099511627776 : Int).tdiv ((u : Int) + 1) ≤ 1099511627776 := quo_top0 (by omega) h
theorem ne_succ (u : Nat) : ((u : Int) + 1 == 0) = false := beq_eq_false_iff_ne.2 (by omega)
theorem mul_wrap {q u : Nat} (h : (q : Int) * ((u : Int) + 1) ≤ 16384) : wrap64 ((q : Int) * ((u : Int) + 1)) = ((q * (u + 1) : Nat) : Int) := by
  have h0 : 0 ≤ (q : Int) * ((u : Int) + 1) := Int.mul_nonneg (by omega) (by omega)
  rw [show ((q * (u + 1) : Nat) : Int) = (q : Int) * ((u : Int) + 1) by simp]
  generalize (q : Int) * ((u : Int) + 1) = z at *
  unfold wrap64; omega

section
variable {w : World} {F G : Nat → Prop} {A B : Option Addr} {n c m d : Nat}
set_option maxRecDepth 100000 in
set_option maxHeartbeats 1000000 in
theorem count_any {s : Int} {ws : List Entry} (h : Sl Enc.entry w F A n c ws) (hn : n ≤ 14) (hin : ws.all (inSectors s) = true) :
    Calls Try.prog 21 #[.int .i64 s, .slice A n c] w fun e w' => e = .returned (.tuple #[.int .i64 (waysS ws), .int .i64 0]) ∧ Below w.heap.size w w' := by
  have hln := h.len
  have hme : ((mayE s ws) == 41) = false := by
    simp only [mayE, hin, if_true]
    split
    · decide
    · split <;> decide
  have HME := Lib.hid hme
  have HM := Lib.hid (may_any (s := s) h)
  generalize mayE s ws = me at *
  have hmm := @run_makeMap Try.prog
  have HW : Hid (waysS ws ≤ 16384) := Lib.hid (Nat.le_trans (waysS_le ws) (by rw [hln]; exact Nat.le_trans (Nat.pow_le_pow_right (by omega) hn) (by decide)))
  clear hin
  go_enter Try.func21, Try.ntmps21
  go_wp2_with fail
  refine HM.out.mono ?_
  rintro e w1 ⟨rfl, hb1⟩
  have hs1 := hb1.size
  have H1 := Lib.hid (h.all hb1)
  clear h HM
  go_wp2
  go_loopw [19] (fun i wr => ∃ k : Nat, k ≤ n ∧ i = .int .i64 k ∧ (∃ D, OwnM wr w1.heap.size k D ∧ MapS D (ws.take k)) ∧ Below w1.heap.size w1 wr) (fun i _ => n - (intOf i).toNat)
  case atStart => exact ⟨0, by omega, by simp, ⟨_, World.ownsMap_made _ _ _ _, MapS.nil⟩, (Below.refl _ _).alloc (Nat.le_refl _) _⟩
  case round =>
    obtain ⟨k, hk, rfl, ⟨D, hown, hD⟩, hd⟩ := hrel
    have hsz := hd.size
    by_cases hlt : k < n
    · have hka : k < ws.length := by omega
      obtain ⟨ad, B, m, d, rfl, -, hc1, hc2, -⟩ := (H1.out.all hd).entry k hka
      have HD := Lib.hid hD
      have hwf := (H1.out.entryWf k hka)
      have hcs := cntS_le (ws.take k) ws[k].1
      have HK : Hid (ws.take (k + 1) = ws.take k ++ [ws[k]]) := Lib.hid (List.take_succ_eq_append_getElem hka)
      simp only [List.length_take] at hcs
      obtain ⟨x, hx⟩ : ∃ x, ws[k] = x := ⟨_, rfl⟩
      rw [hx] at hc1 hcs HK hwf
      obtain ⟨x1, hx1⟩ : ∃ x1, x.1 = x1 := ⟨_, rfl⟩
      rw [hx1] at hc1 hcs hwf
      have HWF := Lib.hid hwf
      have HX := Lib.hid hx1
      clear hD hx hx1 hwf
      go_wp2_with (first
        | (at_lookup; refine wpList_lookup_own_int _ rfl _ _ 109 rfl 3 3 .i64 keyedInt Try.underlying109 Try.underlying3 (zeroInt _) w1.heap.size k _ rfl (hown.alloc _) _ _ rfl (keyOf_int_mk Try.underlying3 HWF.out) ?_; intro c' hat hwc)
        | (at_mapUpdate; refine wpList_mapUpdate_own _ rfl _ _ _ 109 rfl 3 3 keyedInt Try.underlying109 _ w1.heap.size k _ rfl (hown.alloc _) (by unfold maxLen; omega) _ _ _ rfl rfl (keyOf_int_mk Try.underlying3 HWF.out) _ [] (plainElem_int Try.underlying3 (wrap64_wf _)) ?_; intro w2 hown2 hgrow2)
        | go_in)
      have hc' : c' = cntS (ws.take k) x.1 := HD.out.look (by rw [HX.out]; exact hat)
      have hc2' : wrap64 (c' + 1) = cntS (ws.take k) x.1 + 1 := by
        rw [hc', HX.out]
        unfold wrap64
        omega
      have hD2 := HD.out.put x hc2'
      rw [← HK.out, HX.out] at hD2
      have HD2 := Lib.hid hD2
      clear hat hc' hc2' hD2
      go_roundw
      case rel => exact ⟨k + 1, by omega, by go_num, ⟨_, hown2, HD2.out⟩, (hd.alloc hsz _).grown hgrow2 (le_alloc hsz) (fun j hj => by cases hj; exact Nat.le_refl _)⟩
      case measure => simp [intOf]; omega
    · have hkn : k = n := by omega
      subst hkn
      rw [List.take_of_length_le (by omega)] at hD
      have HD := Lib.hid hD
      have hsl := hown.size_le
      have h40 : decide (40 < (Maps.size D : Int)) = false := by simp; omega
      have hlen := Lib.hid hln
      clear hD hln H1
      go_wp2_with (first
        | (at_len; refine wpList_len_own _ rfl _ 109 rfl 3 3 Try.underlying109 _ w1.heap.size k _ rfl hown ?_)
        | (at_range; refine wpList_range_own _ rfl _ 109 rfl 3 3 keyedInt Try.underlying109 _ w1.heap.size k _ rfl hown ?_; intro w0 hrg0 hg0 hs0)
        | go_in)
      go_frame
      obtain ⟨r, hr⟩ : ∃ r, r = wr.heap.size := ⟨_, rfl⟩
      rw [← hr] at hrg0 ⊢
      have hdr : w1.heap.size ≤ r := by omega
      have hb0 : Below w1.heap.size w1 w0 := hd.grown hg0 hsz (fun j hj => by cases hj)
      have hsr0 : r < w0.heap.size := by omega
      clear hr hg0 hs0 hown hsl hd h40
      go_loopw [9] (fun o wq => ∃ (left : Lit → Bool) (cnt q : Nat), o = .int .i64 q ∧ wq.ranges Try.prog 3 (plainElem Try.prog 3) w1.heap.size r k D left cnt ∧ q * prodS ws (fun z => left (.int .i64 z)) ws.length = waysS ws ∧ Below w1.heap.size w1 wq ∧ r < wq.heap.size) (fun _ wq => wq.rangeLeft w1.heap.size r)
      case atStart =>
        refine ⟨_, _, 1, by simp, hrg0, ?_, hb0, hsr0⟩
        rw [Nat.one_mul]
        exact prodS_congr _ fun i hi => by
          rw [HD.out.2.1, ← List.take_length (l := ws)]
          exact (mem_take_sec (Nat.le_refl _)).2 ⟨i, hi, by simp⟩
      case round =>
        obtain ⟨left, cnt, q, rfl, hrg, hpr, hbq, hsq⟩ := hrel
        have HPR := Lib.hid hpr
        clear hpr
        go_wp2_with (first
          | (at_next; refine wpList_next_ranges_ii _ rfl _ rfl 3 3 .i64 .i64 keyedInt Try.underlying3 Try.underlying3 w1.heap.size r k _ _ _ rfl hrg ?_ ?_)
          | go_in)
        · intro _ hl0
          have hq : q = waysS ws := by
            have := HPR.out
            rw [prodS_none (fun z => hl0 _), Nat.mul_one] at this
            exact this
          subst hq
          go_wp2
          go_ret2
          exact ⟨rfl, below_then hb1 hs1 hbq⟩
        · intro x c' w2 cnt1 hwx hwc hlx hat hrg1 hlt hg1 hs1' hen
          obtain ⟨hx1, hx2⟩ := HD.out.entry hat
          have hcl := cntS_le ws x
          rw [hlen.out] at hcl
          have hstep := prodS_step (ws := ws) (p := fun z => left (.int .i64 z)) hlx hx1
          have hpos := prodS_pos ws (fun z => left (.int .i64 z) && !decide (z = x)) ws.length
          have hpr := HPR.out
          have hww := HW.out
          rw [hstep] at hpr
          obtain ⟨u, hu⟩ : ∃ u, cntS ws x = u := ⟨_, rfl⟩
          rw [hu] at hx2 hcl hpr
          subst hx2
          have HPR2 : Hid (q * (u + 1) * prodS ws (fun z => left (.int .i64 z) && !decide (z = x)) ws.length = waysS ws) := Lib.hid (by rw [← hpr, Nat.mul_assoc, Nat.mul_comm (u + 1)])
          have hqle : q * (u + 1) ≤ 16384 := Nat.le_trans (by rw [← HPR2.out]; exact Nat.le_mul_of_pos_right _ hpos) hww
          have hqi : (q : Int) * ((u : Int) + 1) ≤ 16384 := by
            have : ((q * (u + 1) : Nat) : Int) ≤ ((16384 : Nat) : Int) := Int.ofNat_le.2 hqle
            simpa using this
          have hu1 : wrap64 ((u : Int) + 1) = (u : Int) + 1 := by unfold wrap64; omega
          have hne := ne_succ u
          have hqm := mul_wrap hqi
          have hdv := quo_top (q := q) (u := u) hqi
          obtain ⟨z, hz⟩ : ∃ z, (1099511627776 : Int).tdiv ((u : Int) + 1) = z := ⟨_, rfl⟩
          rw [hz] at hdv
          obtain ⟨hdv1, hdv2⟩ := hdv
          have hdd : decide (z < (q : Int)) = false := decide_eq_false (by omega)
          have hdx : wrap64 z = z := by unfold wrap64; omega
          have HG := Lib.hid hg1
          have HLF := Lib.hid hrg.left_eq
          have HRG := Lib.hid hrg1
          have HLT := Lib.hid hlt
          clear hg1 hrg hrg1 hat hlx hx1 hstep hpos hpr hww hcl hwx hwc hu hqle hqi hlt

          go_wp2
          go_roundw
          case rel => exact ⟨_, cnt1, q * (u + 1), by rw [hqm], HRG.out, by simp only [sameKey_int]; exact HPR2.out, hbq.grown HG.out (by omega) (fun j hj => by cases hj; exact hdr), by omega⟩
          case measure => rw [HRG.out.left_eq, HLF.out]; exact HLT.out

set_option maxHeartbeats 400000 in
theorem count_not {s : Int} {ws : List Entry} (h : Sl Enc.entry w F A n c ws) (hin : ws.all (inSectors s) = false) :
    Calls Try.prog 21 #[.int .i64 s, .slice A n c] w fun e w' => e = .returned (.tuple #[.int .i64 0, .int .i64 41]) ∧ Below w.heap.size w w' := by
  have HM := Lib.hid (may_any (s := s) h)
  rw [show mayE s ws = 41 by simp [mayE, hin]] at HM
  clear h hin
  go_enter Try.func21, Try.ntmps21
  go_wp2_with fail
  refine HM.out.mono ?_
  rintro e w1 ⟨rfl, hb1⟩
  go_wp2
  go_ret2
  exact ⟨rfl, hb1⟩
end
end Go.Proofs.Ytdgcfgiedclmcaa
