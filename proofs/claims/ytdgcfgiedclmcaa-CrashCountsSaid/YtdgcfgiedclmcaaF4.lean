/- The walk of the law CrashCounts. -/
import Derived.Test.YtdgcfgiedclmcaaF3
import Derived.Test.YtdgcfgiedclmcaaD4
namespace Go.Proofs.Ytdgcfgiedclmcaa
open Go.RowKit

theorem prodS_small {ws : List Entry} {k : Nat} (hk : k ≤ ws.length) (hn : ws.length ≤ 14) : prodS ws (fun _ => true) k ≤ 16384 :=
  Nat.le_trans (prodS_le ws k hk) (Nat.le_trans (Nat.pow_le_pow_right (by omega) (Nat.le_trans List.countP_le_length hn)) (by decide))
theorem facS_true (ws : List Entry) (k : Nat) : facS ws (fun _ => true) k = if firstS ws k then cntS ws (secAt ws k) + 1 else 1 := by simp [facS]

section
variable {w : World} {A B : Option Addr} {n c m d : Nat}
set_option maxRecDepth 100000 in
set_option maxHeartbeats 4000000 in
theorem counts_main {s : Int} {ws : List Entry} (g : Sl Enc.entry w (fun b => b < w.heap.size) B m d ws) (hs2 : ws.all shortEntry = true) (hm14 : ws.length ≤ 14) (hin : ws.all (inSectors s) = true) :
    Calls Try.prog 5 #[.int .i64 s, .slice B m d] w fun e w' => e = .returned (.bool true) ∧ Below w.heap.size w w' := by
  have hlm := g.len
  have hm : m ≤ 14 := by omega
  have HA := Lib.hid (awake34 w)
  have HF := Lib.hid fun (W : World) (hb : Below w.heap.size w W) => few_any (Sl.nil Enc.bytes W (fun _ => True)) (g.all hb)
  simp only [hs2, hm14, List.all_nil, List.length_nil, Nat.zero_le, decide_true, Bool.and_true] at HF
  have HP := Lib.hid fun (W : World) (hb : Below w.heap.size w W) => count_any (s := s) (g.all hb) hm hin
  have HW := Lib.hid fun (W : World) (hb : Below w.heap.size w W) => within_any (s := s) (g.all hb)
  rw [hin] at HW
  have HL := Lib.hid fun (W : World) (hb : Below w.heap.size w W) => last_any (g.all hb) (by omega)
  have HG := Lib.hid g
  have hwy : waysS ws = prodS ws (fun _ => true) m := by rw [← hlm]; rfl
  have HLM := Lib.hid hlm
  rw [hwy] at HP
  clear hs2 hin g hlm hwy
  go_enter Try.func5, Try.ntmps5
  go_wp2_with fail
  refine HA.out.mono ?_
  rintro e w1 ⟨rfl, hb1⟩
  have HF1 := Lib.hid (HF.out w1 hb1)
  go_wp2_with fail
  refine HF1.out.mono ?_
  rintro e w2 ⟨rfl, hb2⟩
  replace hb2 := below_then hb1 hb1.size hb2
  have HP2 := Lib.hid (HP.out w2 hb2)
  obtain ⟨q, hq⟩ : ∃ q, prodS ws (fun _ => true) m = q := ⟨_, rfl⟩
  rw [hq] at HP2
  have HQ := Lib.hid hq
  clear hq
  go_wp2_with fail
  refine HP2.out.mono ?_
  rintro e w3 ⟨rfl, hb3⟩
  replace hb3 := below_then hb2 hb2.size hb3
  have HW3 := Lib.hid (HW.out w3 hb3)
  go_wp2_with fail
  refine HW3.out.mono ?_
  rintro e w4 ⟨rfl, hb4⟩
  replace hb4 := below_then hb3 hb3.size hb4
  have hs4 := hb4.size
  have HG4 := Lib.hid (HG.out.all hb4)
  clear HA HF HF1 HP HP2 HW HW3 HG hb1 hb2 hb3
  go_wp2
  go_loopw [7, 8, 39] (fun wv lv i wr => ∃ k : Nat, k ≤ m ∧ i = .int .i64 k ∧ wv = .int .i64 (prodS ws (fun _ => true) k) ∧ Own Enc.entry 43 wr w4.heap.size (fun b => b < w.heap.size) lv (lastTo ws k) ∧ Below w4.heap.size w4 wr) (fun _ _ i _ => m - (intOf i).toNat)
  case atStart => exact ⟨0, by omega, by simp, by simp [prodS], (Own.nil _ _ _ _).weaken (fun _ h => h.elim) (fun _ h => by cases h) (fun b hb => by omega), .refl _ _⟩
  case round =>
    obtain ⟨k, hk, rfl, rfl, ho, hbr⟩ := hrel
    obtain ⟨wo, rfl⟩ : ∃ wo : World, wo = wr := ⟨_, rfl⟩
    have hsr := hbr.size
    by_cases hlt : k < m
    · have hka : k < ws.length := by have := HLM.out; omega
      have hlm := HLM.out
      obtain ⟨ad, A', n', c', rfl, -, hc1, hc2, hs⟩ := (HG4.out.all hbr).entry k hka
      have hpk := prodS_small (ws := ws) (k := k) (by omega) hm14
      have hpk1 := prodS_small (ws := ws) (k := k + 1) (by omega) hm14
      have hLk := lastTo_length ws k
      have hgd : ws.getD k (0, []) = ws[k] := by simp [List.getD, hka]
      have hsec := secAt_lt hka
      have hpk2 : prodS ws (fun _ => true) (k + 1) = prodS ws (fun _ => true) k * facS ws (fun _ => true) k := rfl
      rw [facS_true] at hpk2
      have hLS : lastTo ws (k + 1) = if lastOf ws k then lastTo ws k ++ [ws[k]] else lastTo ws k := by rw [← hgd]; rfl
      have HWF := HG4.out.entryWf k hka
      obtain ⟨x, hx⟩ : ∃ x, ws[k] = x := ⟨_, rfl⟩
      rw [hx] at hc1 hs hLS hsec HWF
      obtain ⟨x1, x2⟩ := x
      dsimp only at hc1 hs hLS hsec HWF
      rw [hsec] at hpk2
      obtain ⟨p, hp⟩ : ∃ p, prodS ws (fun _ => true) k = p := ⟨_, rfl⟩
      rw [hp] at hpk hpk2 ⊢
      have HPK := Lib.hid hpk2; have HLS := Lib.hid hLS; have HSEC := Lib.hid hsec; have HO := Lib.hid ho; have HS := Lib.hid hs
      have HWF := Lib.hid HWF; have HP1 := Lib.hid hpk1
      clear hpk2 hLS hgd hx hsec hp ho hs hpk1
      go_wp2
      go_loopw [11, 12, 13, 46] (fun cv fv ev i wr => ∃ j : Nat, j ≤ m ∧ i = .int .i64 j ∧ cv = .int .i64 (cntS (ws.take j) x1) ∧ fv = .bool (firstTo ws k j) ∧ ev = .bool (endTo ws k j) ∧ Below (wo.heap.size + 1) (wo.alloc (.cells #[.int .i64 x1, .slice A' n' c'] 43)) wr) (fun _ _ _ i _ => m - (intOf i).toNat)
      case atStart => exact ⟨0, by omega, by simp, by simp [cntS], by simp [firstTo], by simp [endTo], .refl _ _⟩
      case round =>
        obtain ⟨j, hj, rfl, rfl, rfl, rfl, hbq⟩ := hrel
        have hsq := hbq.size
        simp only [World.size_alloc] at hsq
        have hbox1 : wr.cell? ⟨wo.heap.size, 0, none⟩ = some (.int .i64 x1) := (hbq.cell (p := ⟨wo.heap.size, 0, none⟩) (by simp)).trans (by simp)
        have hbox2 : wr.cell? ⟨wo.heap.size, 1, none⟩ = some (.slice A' n' c') := (hbq.cell (p := ⟨wo.heap.size, 1, none⟩) (by simp)).trans (by simp)
        have hob : Below wo.heap.size wo wr := ((Below.refl _ wo).alloc (Nat.le_refl _) _).trans (hbq.mono (by omega))
        by_cases hjm : j < m
        · have hja : j < ws.length := by omega
          obtain ⟨ae, B', m', d', eA, -, hc3, hc4, -⟩ := ((HG4.out.all hbr).all hob).entry j hja
          cases eA
          have hcj := cntS_succ hja x1
          have hcl := cntS_le (ws.take j) x1
          have hfj := firstTo_succ ws k j
          have hej := endTo_succ ws k j
          have hsj := secAt_lt hja
          simp only [List.length_take] at hcl
          obtain ⟨y, hy⟩ : ∃ y, ws[j] = y := ⟨_, rfl⟩
          rw [hy] at hc3 hsj
          obtain ⟨y1, y2⟩ := y
          dsimp only at hc3 hsj
          rw [hsj] at hcj hfj hej
          rw [HSEC.out] at hfj hej
          obtain ⟨cu, hcu⟩ : ∃ cu, cntS (ws.take j) x1 = cu := ⟨_, rfl⟩
          rw [hcu] at hcj hcl ⊢
          clear hcu hsj hy
          have hwr : wo.heap.size + 1 ≤ wr.heap.size := hsq
          have hwr' : wo.heap.size < wr.heap.size := hsq
          have hbn : Below (wo.heap.size + 1) (wo.alloc (.cells #[.int .i64 x1, .slice A' n' c'] 43)) (wr.alloc (.cells #[.int .i64 y1, .slice B' m' d'] 43)) := hbq.alloc hwr _
          by_cases e : y1 = x1
          · subst e
            simp only [decide_true, Bool.not_true, Bool.false_or, if_true] at hcj hfj hej
            generalize firstTo ws k j = f at *
            generalize endTo ws k j = z at *
            have HC := Lib.hid hcj; have HFJ := Lib.hid hfj; have HEJ := Lib.hid hej; have HBN := Lib.hid hbn
            clear hcj hfj hej hbn
            have hyy : (y1 == y1) = true := by simp
            rcases Nat.lt_trichotomy j k with h | h | h
            all_goals try subst h
            all_goals cases f <;> cases z
            all_goals
              go_wp2
              go_roundw
              case rel => exact ⟨j + 1, by omega, by go_num, by rw [HC.out]; simp, by rw [HFJ.out]; simp <;> omega, by rw [HEJ.out]; simp <;> omega, HBN.out⟩
              case measure => simp [intOf]; omega
          · rw [if_neg e] at hcj
            rw [decide_eq_false e] at hfj hej
            simp only [Bool.not_false, Bool.true_or, Bool.and_true] at hfj hej
            have HC := Lib.hid hcj; have HFJ := Lib.hid hfj; have HEJ := Lib.hid hej; have HBN := Lib.hid hbn
            have hne : (y1 == x1) = false := by simpa using e
            clear hcj hfj hej hbn e
            go_wp2
            go_roundw
            case rel => exact ⟨j + 1, by omega, by go_num, by rw [HC.out]; simp, by rw [HFJ.out], by rw [HEJ.out], HBN.out⟩
            case measure => simp [intOf]; omega
        · have hjm' : j = m := by omega
          subst hjm'
          have e1 : ws.take j = ws := List.take_of_length_le (by omega)
          have e2 : firstTo ws k j = firstS ws k := by rw [← hlm]; exact firstTo_all hka
          have e3 : endTo ws k j = lastOf ws k := by rw [← hlm]; exact endTo_all ws k
          rw [e1, e2, e3]
          have hpk := HPK.out
          have hls := HLS.out
          have hcl := cntS_le ws x1
          have hp1 := HP1.out
          rw [hpk] at hp1
          obtain ⟨cu, hcu⟩ : ∃ cu, cntS ws x1 = cu := ⟨_, rfl⟩
          rw [hcu] at hpk hcl hp1 ⊢
          have hwr : wo.heap.size + 1 ≤ wr.heap.size := hsq
          have hwr' : wo.heap.size < wr.heap.size := hsq
          have hw4 : w4.heap.size ≤ wr.heap.size := by omega
          have HO1 := Lib.hid (HO.out.all hob)
          have HS1 := Lib.hid ((HS.out.all hob).keep (F' := fun b => b < w.heap.size) (.weaken _ fun b h _ => h))
          have hbw : Below w4.heap.size w4 wr := hbr.trans (hob.mono hsr)
          have HBW := Lib.hid hbw
          have hsiz : ∀ b, b < w.heap.size → b < wr.heap.size := by intro b hb; omega
          clear e1 e2 e3 hcu hob hbw hbq
          cases hf : firstS ws k with
          | true =>
            rw [hf, if_pos rfl] at hpk hp1
            have hpi : (p : Int) * ((cu : Int) + 1) ≤ 16384 := by
              have : ((p * (cu + 1) : Nat) : Int) ≤ ((16384 : Nat) : Int) := Int.ofNat_le.2 hp1
              simpa using this
            have hmw := mul_wrap hpi
            have HPK := Lib.hid hpk
            clear hf hpk hp1 hpi
            cases he : lastOf ws k with
            | true =>
              rw [he, if_pos rfl] at hls
              have HLS := Lib.hid hls
              clear he hls
              go_wp2_with (at_builtin; refine wpl_app (e := Enc.entry) (E := 43) (base := w4.heap.size) rfl _ _ 23 rfl Try.underlying23 Try.infoEntry rfl rfl rfl (HO1.out.alloc _) (Sr.box (e := Enc.entry) (G := fun b => b < w.heap.size) (y := (x1, x2)) ⟨[.int .i64 x1], [.slice A' n' c'], rfl, ⟨rfl, HWF.out⟩, ⟨_, _, _, rfl, HS1.out⟩⟩ _) (fun g hg hG => by have := (HO1.out.blk hg).1; omega) (le_alloc hw4) (by omega) (by omega) ?_; intro v1 w5 ho2 hg2 _ _)
              have hb5 : Below w4.heap.size w4 w5 := (HBW.out.alloc hw4 _).grown hg2 (le_alloc hw4) (fun g hg => (HO1.out.blk hg).1)
              have HO2 := Lib.hid (ho2.weaken (F' := fun b => b < w.heap.size) (fun b hb => by rcases hb with h | h; exact h; exact h.1) (fun g hg hG => by have := (ho2.blk hg).1; omega) (fun b hb => by have := hb5.size; omega))
              clear ho2 hg2
              go_roundw
              case rel => exact ⟨k + 1, by omega, by go_num, by rw [HPK.out]; first | rw [hmw] | simp, by rw [HLS.out]; exact HO2.out, hb5⟩
              case measure => simp [intOf]; omega
            | false =>
              rw [he, if_neg (by decide)] at hls
              have HLS := Lib.hid hls
              clear he hls
              go_wp2
              go_roundw
              case rel => exact ⟨k + 1, by omega, by go_num, by rw [HPK.out]; first | rw [hmw] | simp, by rw [HLS.out]; exact HO1.out, HBW.out⟩
              case measure => simp [intOf]; omega
          | false =>
            rw [hf, if_neg (by decide), Nat.mul_one] at hpk
            have HPK := Lib.hid hpk
            clear hf hpk hp1
            cases he : lastOf ws k with
            | true =>
              rw [he, if_pos rfl] at hls
              have HLS := Lib.hid hls
              clear he hls
              go_wp2_with (at_builtin; refine wpl_app (e := Enc.entry) (E := 43) (base := w4.heap.size) rfl _ _ 23 rfl Try.underlying23 Try.infoEntry rfl rfl rfl (HO1.out.alloc _) (Sr.box (e := Enc.entry) (G := fun b => b < w.heap.size) (y := (x1, x2)) ⟨[.int .i64 x1], [.slice A' n' c'], rfl, ⟨rfl, HWF.out⟩, ⟨_, _, _, rfl, HS1.out⟩⟩ _) (fun g hg hG => by have := (HO1.out.blk hg).1; omega) (le_alloc hw4) (by omega) (by omega) ?_; intro v1 w5 ho2 hg2 _ _)
              have hb5 : Below w4.heap.size w4 w5 := (HBW.out.alloc hw4 _).grown hg2 (le_alloc hw4) (fun g hg => (HO1.out.blk hg).1)
              have HO2 := Lib.hid (ho2.weaken (F' := fun b => b < w.heap.size) (fun b hb => by rcases hb with h | h; exact h; exact h.1) (fun g hg hG => by have := (ho2.blk hg).1; omega) (fun b hb => by have := hb5.size; omega))
              clear ho2 hg2
              go_roundw
              case rel => exact ⟨k + 1, by omega, by go_num, by rw [HPK.out], by rw [HLS.out]; exact HO2.out, hb5⟩
              case measure => simp [intOf]; omega
            | false =>
              rw [he, if_neg (by decide)] at hls
              have HLS := Lib.hid hls
              clear he hls
              go_wp2
              go_roundw
              case rel => exact ⟨k + 1, by omega, by go_num, by rw [HPK.out], by rw [HLS.out]; exact HO1.out, HBW.out⟩
              case measure => simp [intOf]; omega
    · have hkm : k = m := by omega
      subst hkm
      rw [HQ.out]
      obtain ⟨Av, cv, rfl, hsv⟩ := ho.sl (F' := fun _ => True) (fun _ _ => trivial) (fun _ _ => trivial)
      have hbw : Below w.heap.size w wo := hb4.trans (hbr.mono hs4)
      have HL5 := Lib.hid (HL.out wo hbw)
      have HSV := Lib.hid hsv
      have hqq : ((q : Int) == (q : Int)) = true := by simp
      clear hsv ho
      go_wp2_with fail
      refine HL5.out.mono ?_
      rintro e w5 ⟨v5, rfl, ho5, hb5⟩
      obtain ⟨A5, c5, rfl, hs5⟩ := ho5.sl (F' := fun _ => True) (fun _ _ => trivial) (fun _ _ => trivial)
      have HC5 := Lib.hid (same_entries hs5 (HSV.out.all hb5))
      simp only [decide_true] at HC5
      have hbw5 := below_then hbw hbw.size hb5
      clear ho5 hs5
      go_wp2_with fail
      refine HC5.out.mono ?_
      rintro e w6 ⟨rfl, hd6⟩
      go_wp2
      go_ret
      exact ⟨rfl, below_dr hbw5 hd6⟩

set_option maxHeartbeats 1000000 in
theorem counts_walk (s : Int) (_ : (Lit.int .i64 s).wf = true) {ws : List Entry} (g : Sl Enc.entry w (fun b => b < w.heap.size) B m d ws) :
    Calls Try.prog 5 #[.int .i64 s, .slice B m d] w fun e w' => e = .returned (.bool true) ∧ Below w.heap.size w w' := by
  have HA := Lib.hid (awake34 w)
  have HF := Lib.hid fun (W : World) (hb : Below w.heap.size w W) => few_any (Sl.nil Enc.bytes W (fun _ => True)) (g.all hb)
  by_cases hfew : (ws.all shortEntry && decide (ws.length ≤ 14)) = true
  · have hfew' := hfew
    simp only [Bool.and_eq_true, decide_eq_true_eq] at hfew'
    obtain ⟨hs2, hm14⟩ := hfew'
    cases hin : ws.all (inSectors s) with
    | true => exact counts_main g hs2 hm14 hin
    | false =>
      simp only [hs2, hm14, List.all_nil, List.length_nil, Nat.zero_le, decide_true, Bool.and_true] at HF
      have HP := Lib.hid fun (W : World) (hb : Below w.heap.size w W) => count_not (s := s) (g.all hb) hin
      have HW := Lib.hid fun (W : World) (hb : Below w.heap.size w W) => within_any (s := s) (g.all hb)
      rw [hin] at HW
      clear g hfew hs2 hm14 hin
      go_enter Try.func5, Try.ntmps5
      go_wp2_with fail
      refine HA.out.mono ?_
      rintro e w1 ⟨rfl, hb1⟩
      have HF1 := Lib.hid (HF.out w1 hb1)
      go_wp2_with fail
      refine HF1.out.mono ?_
      rintro e w2 ⟨rfl, hb2⟩
      replace hb2 := below_then hb1 hb1.size hb2
      have HP2 := Lib.hid (HP.out w2 hb2)
      go_wp2_with fail
      refine HP2.out.mono ?_
      rintro e w3 ⟨rfl, hb3⟩
      replace hb3 := below_then hb2 hb2.size hb3
      have HW3 := Lib.hid (HW.out w3 hb3)
      go_wp2_with fail
      refine HW3.out.mono ?_
      rintro e w4 ⟨rfl, hb4⟩
      replace hb4 := below_then hb3 hb3.size hb4
      go_wp2
      go_ret
      exact ⟨rfl, hb4⟩
  · have hfew' : (ws.all shortEntry && decide (ws.length ≤ 14)) = false := by simpa using hfew
    simp only [List.all_nil, List.length_nil, Nat.zero_le, decide_true, Bool.true_and, hfew'] at HF
    clear g hfew hfew'
    go_enter Try.func5, Try.ntmps5
    go_wp2_with fail
    refine HA.out.mono ?_
    rintro e w1 ⟨rfl, hb1⟩
    have HF1 := Lib.hid (HF.out w1 hb1)
    go_wp2_with fail
    refine HF1.out.mono ?_
    rintro e w2 ⟨rfl, hb2⟩
    replace hb2 := below_then hb1 hb1.size hb2
    go_wp2
    go_ret
    exact ⟨rfl, hb2⟩
end
end Go.Proofs.Ytdgcfgiedclmcaa
