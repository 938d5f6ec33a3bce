/- The walk of the law CrashOutcomes, its main way. -/
import Derived.Test.YtdgcfgiedclmcaaE2
import Derived.Test.YtdgcfgiedclmcaaE3
import Derived.Test.YtdgcfgiedclmcaaQ
namespace Go.Proofs.Ytdgcfgiedclmcaa
open Go.RowKit

theorem Try.infoBool : (Try.prog.info? 4).map (fun i => (i.zero, i.size, i.bytes)) = some (some (.bool false), 1, 1) := by kernel_rfl
def bitsTo (k j : Nat) : List Bool := (List.range j).map fun i => k.testBit i
theorem bitsTo_succ (k j : Nat) : bitsTo k (j + 1) = bitsTo k j ++ [k.testBit j] := by simp [bitsTo, List.range_succ]
theorem keepP_bits {k m j : Nat} (h : j < m) : keepP (bitsTo k m) j = k.testBit j := by simp [keepP, bitsTo, List.getD, h]
theorem any_take_succ {α : Type} {p : α → Bool} {l : List α} {k : Nat} (hk : k < l.length) : (l.take (k + 1)).any p = ((l.take k).any p || p l[k]) := by
  rw [List.take_succ_eq_append_getElem hk, List.any_append]; simp

section
variable {w : World} {F G H : Nat → Prop} {A B D : Option Addr} {n c m d l e : Nat}
set_option maxRecDepth 100000 in
set_option maxHeartbeats 4000000 in
theorem outcomes_main {im left : List (List Int)} {ws : List Entry} (h : Sl Enc.bytes w (fun b => b < w.heap.size) A n c im) (g : Sl Enc.entry w (fun b => b < w.heap.size) B m d ws) (hl : Sl Enc.bytes w (fun b => b < w.heap.size) D l e left) (hm6 : m ≤ 6)
    (hs1 : im.all shortRow = true) (hs2 : ws.all shortEntry = true) (hn12 : im.length ≤ 12) (hm14 : ws.length ≤ 14) (hin : ws.all (inSectors n) = true) :
    Calls Try.prog 3 #[.slice A n c, .slice B m d, .slice D l e] w fun e w' => e = .returned (.bool true) ∧ Below w.heap.size w w' := by
  have hln := h.len
  have hlm := g.len
  have HA := Lib.hid (awake34 w)
  have HF := Lib.hid fun (W : World) (hb : Below w.heap.size w W) => few_any (h.all hb) (g.all hb)
  simp only [hs1, hs2, hn12, hm14, decide_true, Bool.and_true] at HF
  have HP := Lib.hid fun (W : World) (hb : Below w.heap.size w W) => outcomes_any (h.all hb) (g.all hb) (by omega) (rows_of_all hs1) (entries_of_all hs2)
  have HW := Lib.hid fun (W : World) (hb : Below w.heap.size w W) => within_any (s := (n : Int)) (g.all hb)
  have hmy := mayE_in (n := im.length) (ws := ws) hn12 hm14
  rw [hln] at hmy
  rw [hin] at HW
  have e0 : mayE im.length ws = 0 := by rw [hln, hmy, hin]; rfl
  have hin0 := in_of_all hin
  have eE : outE im ws = 0 := by simp only [outE, e0, if_true, hlm]; rw [if_neg (by omega)]
  have eR : outR im ws = outTo ws im (2 ^ m) := by simp only [outR, eE, if_true, hlm]
  simp only [eE, eR] at HP
  have HM := Lib.hid fun (W : World) (hb : Below w.heap.size w W) (A' : Option Addr) (n' c' : Nat) (G' : Nat → Prop) (X : List (List Int)) (hs : Sl Enc.bytes W G' A' n' c' X) => May_any (h.all hb) (g.all hb) hs
  have HD := Lib.hid fun (W : World) (hb : Below w.heap.size w W) (A' : Option Addr) (n' c' : Nat) (G' : Nat → Prop) (K : List Bool) (hs : Sl Enc.bool W G' A' n' c' K) => law_done (h.all hb) (g.all hb) hs hin0 (by omega)
  have HL := Lib.hid fun (W : World) (hb : Below w.heap.size w W) => hl.all hb
  have HFO : Hid (mayB im ws left = (outTo ws im (2 ^ m)).any fun x => decide (x = left)) := Lib.hid (by rw [← hlm]; exact found_law e0 (fun x hx => (hin0 x hx).1))
  have HMI : Hid (∀ x, x ∈ outTo ws im (2 ^ m) → mayB im ws x = true) := Lib.hid fun x hx => by
    obtain ⟨k, _, rfl⟩ := (mem_outTo _ _ _ _).1 hx
    exact mayB_imgN e0 (fun x hx => (hin0 x hx).1) k
  have HIM : Hid (∀ k, doneTo (keepP (bitsTo k m)) ws im ws.length = imgN ws im k) := Lib.hid fun k => doneTo_congr _ fun j hj => keepP_bits (by omega)
  have HLM := Lib.hid hlm
  have HLN := Lib.hid hln
  have hgm := g.max
  clear hs1 hs2 hn12 hmy hin e0 eE h g hl hln hlm hin0 eR hm14
  obtain ⟨N, hN⟩ : ∃ N : Nat, N = 2 ^ m := ⟨_, rfl⟩
  have hNb : N ≤ 64 := by
    rw [hN]
    exact Nat.le_trans (Nat.pow_le_pow_right (by omega) hm6) (by decide)
  have hsh : wrap64 ((2 : Int) ^ m) = (N : Int) := by
    have e : ((2 : Int) ^ m) = (N : Int) := by rw [hN]; simp
    rw [e]
    unfold wrap64
    omega
  rw [← hN] at HP HFO HMI
  clear hN
  have hd10 : decide (10 < (m : Int)) = false := by simp; omega
  have hd6 : decide (6 < (m : Int)) = false := by simp; omega
  go_enter Try.func3, Try.ntmps3
  go_wp2_with fail
  refine HA.out.mono ?_
  rintro e w1 ⟨rfl, hb1⟩
  have HF1 := Lib.hid (HF.out w1 hb1)
  go_wp2_with fail
  refine HF1.out.mono ?_
  rintro e w2 ⟨rfl, hb2⟩
  replace hb2 := below_then hb1 hb1.size hb2
  have HP2 := Lib.hid (HP.out w2 hb2)
  go_wp2_with fail
  refine HP2.out.mono ?_
  rintro e w3 ⟨hb3, A3, n3, c3, rfl, ho3⟩
  replace hb3 := below_then hb2 hb2.size hb3
  have HO3 := Lib.hid ho3
  have HW3 := Lib.hid (HW.out w3 hb3)
  clear ho3 HA HF HF1 HP HP2
  go_wp2_with fail
  refine HW3.out.mono ?_
  rintro e w4 ⟨rfl, hb4⟩
  have HO4 := Lib.hid (HO3.out.all hb4)
  replace hb4 := below_then hb3 hb3.size hb4
  have hs4 := hb4.size
  clear HO3 HW3 HW
  go_wp2
  simp only [hsh]
  go_loopw [61, 9] (fun i v wr => ∃ k : Nat, k ≤ N ∧ i = .int .i64 k ∧ Own (Enc.slice Enc.bytes) 22 wr w4.heap.size (OfN w.heap.size wr [38]) v (outTo ws im k) ∧ Below w4.heap.size w4 wr) (fun i _ _ => N - (intOf i).toNat)
  case atStart => exact ⟨0, by omega, by simp, (Own.nil _ _ _ _).retypeN (by decide) hs4 hs4 (fun _ h => h.elim), .refl _ _⟩
  case round =>
    obtain ⟨k, hk, rfl, ho, hbr⟩ := hrel
    obtain ⟨wo, rfl⟩ : ∃ wo : World, wo = wr := ⟨_, rfl⟩
    have hsr := hbr.size
    have hbw : Below w.heap.size w wo := hb4.trans (hbr.mono hs4)
    by_cases hlt : k < N
    · have HO := Lib.hid ho
      have hLk := outTo_length ws im k
      obtain ⟨Av, cv, hv, -, -⟩ := ho.form
      obtain ⟨q, hq⟩ : ∃ q, (outTo ws im k).length = q := ⟨_, rfl⟩
      rw [hq] at hv hLk
      subst hv
      have HQ := Lib.hid hq
      have HSU := Lib.hid (outTo_succ ws im k)
      clear ho hq
      go_wp2
      go_loopw [11, 66] (fun kv i wr => ∃ j : Nat, j ≤ m ∧ i = .int .i64 j ∧ Own Enc.bool 4 wr wo.heap.size (fun _ => False) kv (bitsTo k j) ∧ Below wo.heap.size wo wr) (fun _ i _ => m - (intOf i).toNat)
      case atStart => exact ⟨0, by omega, by simp, Own.nil _ _ _ _, .refl _ _⟩
      case round =>
        obtain ⟨j, hj, rfl, hok, hbq⟩ := hrel
        have hsq := hbq.size
        by_cases hjm : j < m
        · have hbit := testBit_int k j
          have HK := Lib.hid hok
          have hlen : Hid ((bitsTo k j).length = j) := Lib.hid (by simp [bitsTo])
          clear hok
          go_wp2_with (at_builtin; refine wpl_app (e := Enc.bool) (E := 4) (base := wo.heap.size) rfl _ _ 31 rfl Try.underlying31 Try.infoBool rfl rfl rfl (HK.out.alloc _) (Sr.box (e := Enc.bool) (G := fun _ => False) (y := k.testBit j) rfl _) (fun _ _ h => h) (le_alloc hsq) (by omega) (by rw [hlen.out]; omega) ?_; intro v1 w5 ho1 hg1 _ _)
          have hb5 : Below wo.heap.size wo w5 := (hbq.alloc hsq _).grown hg1 (le_alloc hsq) (fun g hg => (HK.out.blk hg).1)
          have HO1 := Lib.hid ho1.bool
          clear ho1 hg1
          go_roundw
          case rel =>
            exact ⟨j + 1, by omega, by go_num, by rw [bitsTo_succ]; exact HO1.out, hb5⟩
          case measure => simp [intOf]; omega
        · have hjm' : j = m := by omega
          subst hjm'
          obtain ⟨Ak, ck, rfl, hsk⟩ := hok.sl (F' := fun _ => True) (fun _ h => h.elim) (fun _ _ => trivial)
          have hwo : w.heap.size ≤ wo.heap.size := by omega
          have HD5 := Lib.hid (HD.out wr (below_then hbw hwo hbq) _ _ _ _ _ hsk)
          rw [HIM.out] at HD5
          have hXl : (imgN ws im k).length = n := (doneTo_length _ _ _ _).trans HLN.out
          clear hsk hok
          go_wp2_with fail
          refine HD5.out.mono ?_
          rintro e w6 ⟨v6, rfl, ho6, hb6⟩
          have hs6 := hb6.size
          have hb6r := below_then hbq hsq hb6
          have hb6w := below_then hbw hwo hb6r
          have hw6 : w.heap.size ≤ w6.heap.size := by omega
          have hw64 : w4.heap.size ≤ w6.heap.size := by omega
          have hb64 : Below w4.heap.size w4 w6 := hbr.trans (hb6r.mono hsr)
          obtain ⟨Ax, cx, hvx, hsx⟩ := ho6.sl (F' := OfN w.heap.size w6 [38]) (fun b hb => .inl (by rcases hb.1 with h | h <;> exact h)) (fun g hg => .inr (by
            obtain ⟨cs, hcs⟩ := ho6.typed hg
            exact ⟨cs, _, _, hcs, by decide⟩))
          rw [hXl] at hvx hsx
          subst hvx
          have ho := (HO.out.all hb6r).retypeN (n₀ := w.heap.size) (ts := [38]) (by decide) hs4 hw6 fun b hb _ => hb.keep (hb6r.block b (by rcases hb with h | h; omega; exact h.lt))
          obtain ⟨Av', cv', ev, hsv⟩ := ho.sl (F' := fun _ => True) (fun _ _ => trivial) (fun _ _ => trivial)
          rw [HQ.out] at ev hsv
          cases ev
          have hsu := HSU.out
          unfold outStep at hsu
          have hlq := HQ.out
          clear ho6 HO HD5 HQ HSU hbq hb6 hb6r hbr hbw
          generalize imgN ws im k = X at *
          generalize outTo ws im k = L at *
          have HSU := Lib.hid hsu
          have HO := Lib.hid ho
          have HX := Lib.hid hsx
          have HS := Lib.hid hsv
          clear hsu ho hsx hsv
          go_wp2
          go_loopw [14, 85] (fun tv i wr => ∃ j : Nat, j ≤ q ∧ i = .int .i64 j ∧ tv = .bool ((L.take j).any fun y => decide (X = y)) ∧ Dr w6 wr) (fun _ i _ => q - (intOf i).toNat)
          case atStart => exact ⟨0, by omega, by simp, by simp, .refl _⟩
          case round =>
            obtain ⟨j, hj, rfl, rfl, hd⟩ := hrel
            by_cases hjq : j < q
            · have hjL : j < L.length := by omega
              have hts := any_take_succ (p := fun y => decide (X = y)) hjL
              obtain ⟨ad, B', m', d', rfl, -, hc1, hs1⟩ := (HS.out.all hd.below).slice j hjL
              have HC := Lib.hid (same_rows (HX.out.all hd.below) hs1)
              cases hq : (L.take j).any (fun y => decide (X = y)) with
              | true =>
                rw [hq, Bool.true_or] at hts
                have HT := Lib.hid hts
                clear hts hq HC hs1
                go_wp2
                go_roundw
                case rel => exact ⟨j + 1, by omega, by go_num, by rw [HT.out], hd⟩
                case measure => simp [intOf]; omega
              | false =>
                rw [hq, Bool.false_or] at hts
                have HT := Lib.hid hts
                clear hts hq hs1
                go_wp2_with fail
                refine HC.out.mono ?_
                rintro e w7 ⟨rfl, hd7⟩
                go_wp2
                go_roundw
                case rel => exact ⟨j + 1, by omega, by go_num, by rw [HT.out], hd.trans hd7⟩
                case measure => simp [intOf]; omega
            · have hjq' : j = q := by omega
              subst hjq'
              rw [List.take_of_length_le (by omega)]
              have hs7 := hd.size
              cases hq : L.any (fun y => decide (X = y)) with
              | true =>
                have HE : Hid (outTo ws im (k + 1) = L) := Lib.hid (by rw [HSU.out, if_pos hq])
                clear hq
                have HO7 := Lib.hid ((HO.out.all hd.below).retypeN (n₀ := w.heap.size) (ts := [38]) (by decide) hs4 (by omega) fun b hb _ => hb.keep (hd.below.block b (by rcases hb with h | h; omega; exact h.lt)))
                have hb7 : Below w4.heap.size w4 wr := below_dr hb64 hd
                go_wp2
                go_roundw
                case rel => exact ⟨k + 1, by omega, by go_num, by rw [HE.out]; exact HO7.out, hb7⟩
                case measure => simp [intOf]; omega
              | false =>
                have HE : Hid (outTo ws im (k + 1) = L ++ [X]) := Lib.hid (by rw [HSU.out, if_neg (by rw [hq]; decide)])
                clear hq
                have HO7 := Lib.hid ((HO.out.all hd.below).retypeN (n₀ := w.heap.size) (ts := [38]) (by decide) hs4 (by omega) fun b hb _ => hb.keep (hd.below.block b (by rcases hb with h | h; omega; exact h.lt)))
                have HX7 := Lib.hid (HX.out.keep (w' := wr) (F' := OfN w.heap.size wr [38]) fun b hb hl => ⟨by rw [hd.heap], hb.keep (by rw [hd.heap])⟩)
                have hb7 : Below w4.heap.size w4 wr := below_dr hb64 hd
                have hw47 : w4.heap.size ≤ wr.heap.size := by omega
                clear HO HX HS hd hs7
                go_wp2_with (at_builtin; refine wpl_app (e := Enc.slice Enc.bytes) (E := 22) (base := w4.heap.size) rfl _ _ 26 rfl Try.underlying26 Try.infoRows rfl rfl rfl (HO7.out.alloc _) (Sr.box (e := Enc.slice Enc.bytes) (G := OfN w.heap.size wr [38]) (y := X) ⟨_, _, _, rfl, HX7.out⟩ _) HO7.out.not (le_alloc hw47) (by omega) (by omega) ?_; intro v1 w8 ho1 hg1 _ _)
                have hb8 : Below w4.heap.size w4 w8 := (hb7.alloc hw47 _).grown hg1 (le_alloc hw47) (fun g hg => (HO7.out.blk hg).1)
                have hs8 := hg1.size
                simp at hs8
                have HO8 := Lib.hid (ho1.retypeN (n₀ := w.heap.size) (ts := [38]) (by decide) hs4 (by omega) fun b hb _ => by
                  replace hb : OfN w.heap.size wr [38] b := by rcases hb with h | h; exact h; exact h.1
                  have hl : b < wr.heap.size := by rcases hb with h | h; omega; exact h.lt
                  exact hb.keep ((hg1.block b (by simp; omega) (fun e => HO7.out.not b e.symm hb)).trans (Below.heap_alloc _ _ _ hl)))
                clear ho1 hg1
                go_wp2
                go_roundw
                case rel => exact ⟨k + 1, by omega, by go_num, by rw [HE.out]; exact HO8.out, hb8⟩
                case measure => simp [intOf]; omega
    · have hkN : k = N := by omega
      subst hkN
      obtain ⟨Av, cv, rfl, hsv⟩ := ho.sl (F' := fun _ => True) (fun _ _ => trivial) (fun _ _ => trivial)
      obtain ⟨q, hq⟩ : ∃ q, (outTo ws im k).length = q := ⟨_, rfl⟩
      have hqb : q ≤ 64 := by have := outTo_length ws im k; omega
      rw [hq] at hsv ⊢
      obtain rfl : q = n3 := hq.symm.trans HO4.out.len
      have hqq : ((q : Int) != (q : Int)) = false := by simp
      have HG := Lib.hid (HO4.out.all (hbr))
      have HS := Lib.hid hsv
      have HQ := Lib.hid hq
      clear ho hsv hq HO4 HIM HD
      generalize outTo ws im k = L at *
      go_wp2
      go_loopw [17, 114] (fun fv i wr => ∃ j : Nat, j ≤ q ∧ i = .int .i64 j ∧ fv = .bool ((L.take j).any fun x => decide (x = left)) ∧ Below wo.heap.size wo wr) (fun _ i _ => q - (intOf i).toNat)
      case atStart => exact ⟨0, by omega, by simp, by simp, .refl _ _⟩
      case round =>
        obtain ⟨j, hj, rfl, rfl, hd⟩ := hrel
        have hwo : w.heap.size ≤ wo.heap.size := by omega
        have hbd := below_then hbw hwo hd
        by_cases hjq : j < q
        · have hql := HQ.out
          have hjL : j < L.length := by omega
          have hts := any_take_succ (p := fun x => decide (x = left)) hjL
          obtain ⟨ad, B', m', d', rfl, -, hc1, hs1⟩ := (HG.out.all hd).slice j hjL
          obtain ⟨ae, B2, m2, d2, rfl, -, hc2, hs2⟩ := (HS.out.all hd).slice j hjL
          have hmb : mayB im ws L[j] = true := HMI.out _ (List.getElem_mem _)
          have HC1 := Lib.hid fun (W : World) (hb : Below wr.heap.size wr W) => (hb.cell (Bc.of_cell hc1).lt).trans hc1
          have HC2 := Lib.hid fun (W : World) (hb : Below wr.heap.size wr W) => (hb.cell (Bc.of_cell hc2).lt).trans hc2
          have HE := Lib.hid fun (W : World) (hb : Below wr.heap.size wr W) => same_rows (hs1.all hb) (hs2.all hb)
          have HM1 := Lib.hid fun (W : World) (hb : Below wr.heap.size wr W) => HM.out W (below_then hbd (by have := hd.size; omega) hb) _ _ _ _ _ (hs1.all hb)
          rw [hmb] at HM1
          simp only [eq_self, decide_true] at HE
          go_wp2
          (refine wp_region_quietC (fun W => Below (World.heap wr).size wr W) (by kernel_rfl) (by kernel_rfl) (below_of_drewN wr 1) ?_; (repeat (refine wpQuiet_step (fun KQ hKQ => ?_); go_simp; first | (refine hKQ _ ?_; clear hKQ KQ) | (refine ⟨_, fun _ _ => rfl, hKQ _ ?_⟩; clear hKQ KQ) | (apply Exists.intro; refine ⟨?_, hKQ _ ?_⟩; (intro W hW; first | (go_at_call 17; exact (HE.out W hW).mono fun e w' h => ⟨h.1, below_dr hW h.2⟩) | (go_at_call 18; exact (HM1.out W hW).mono fun e w' h => ⟨h.1, below_then hW hW.size h.2⟩) | (have h1 := HC1.out W hW; simp only [h1]; exact ⟨rfl, rfl⟩) | (have h1 := HC2.out W hW; simp only [h1]; exact ⟨rfl, rfl⟩)); clear hKQ KQ))); refine wpQuiet_nil ?_)
          intro w7 hb7
          have hbd7 := below_then hbd (by have := hd.size; omega) hb7
          have hd7 := below_then hd hd.size hb7
          have hc2' := HC2.out w7 hb7
          have HS7 := Lib.hid (same_rows (hs2.all hb7) (HL.out w7 hbd7))
          clear HC1 HC2 HE HM1 hs1 hs2 hc1 hc2 hbd hmb
          cases hq : (L.take j).any (fun y => decide (y = left)) with
          | true =>
            rw [hq, Bool.true_or] at hts
            have HT := Lib.hid hts
            clear hts hq HS7
            go_wp2
            go_roundw
            case rel => exact ⟨j + 1, by omega, by go_num, by rw [HT.out], hd7⟩
            case measure => simp [intOf]; omega
          | false =>
            rw [hq, Bool.false_or] at hts
            have HT := Lib.hid hts
            clear hts hq
            go_wp2_with fail
            refine HS7.out.mono ?_
            rintro e w8 ⟨rfl, hd8⟩
            go_wp2
            go_roundw
            case rel => exact ⟨j + 1, by omega, by go_num, by rw [HT.out], below_dr hd7 hd8⟩
            case measure => simp [intOf]; omega
        · have hjq' : j = q := by omega
          subst hjq'
          have hql := HQ.out
          rw [List.take_of_length_le (by omega), ← HFO.out]
          have HME := Lib.hid (HM.out wr hbd _ _ _ _ _ (HL.out wr hbd))
          clear hql
          go_wp2_with fail
          refine HME.out.mono ?_
          rintro e w9 ⟨rfl, hb9⟩
          go_wp2
          go_ret
          exact ⟨ret_bool (by simp), below_then hbd hbd.size hb9⟩
end
end Go.Proofs.Ytdgcfgiedclmcaa
