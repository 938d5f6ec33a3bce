/- The walk of the law CrashApplies. -/
import Derived.Test.YtdgcfgiedclmcaaE1
import Derived.Test.YtdgcfgiedclmcaaD4
namespace Go.Proofs.Ytdgcfgiedclmcaa
open Go.RowKit

theorem rows_of_obytes {E E' : TypeId} {w : World} {base : Nat} {F : Nat → Prop} {v : Value} {xs : List (List Int)} (h : Own (Enc.obytes E) E' w base F v xs) : ∃ A c, v = .slice A xs.length c ∧ Sl Enc.bytes w (OfT w [E', E]) A xs.length c xs := h.slT

/-- of the world b nothing has turned but blocks of F -/
structure But (F : Nat → Prop) (a b : World) : Prop where
  os : b.os = a.os
  tape : b.tape = a.tape
  output : b.output = a.output
  size : b.heap.size = a.heap.size
  block : ∀ k, ¬ F k → b.heap[k]? = a.heap[k]?
theorem But.refl (F : Nat → Prop) (a : World) : But F a a := ⟨rfl, rfl, rfl, rfl, fun _ _ => rfl⟩
theorem But.setCell {F : Nat → Prop} {a b : World} (h : But F a b) {p : Addr} (hp : F p.block) (u : Value) : But F a (b.setCell p u) :=
  ⟨h.os, h.tape, h.output, by simpa [World.setCell] using h.size, fun k hk => (Below.heap_setCell b p u k (fun e => hk (e ▸ hp))).trans (h.block k hk)⟩
theorem But.below {F : Nat → Prop} {a b : World} (h : But F a b) {B : Nat} (hF : ∀ k, F k → B ≤ k) : Below B a b := ⟨h.os, h.tape, h.output, by rw [h.size]; exact Nat.le_refl _, fun k hk => h.block k (fun e => by have := hF k e; omega)⟩

section
variable {w : World} {F G H : Nat → Prop} {A B D : Option Addr} {n c m d l e : Nat}
set_option maxRecDepth 100000 in
set_option maxHeartbeats 4000000 in
theorem applies_walk {im : List (List Int)} {ws : List Entry} {keep : List Bool} (h : Sl Enc.bytes w (fun b => b < w.heap.size) A n c im) (g : Sl Enc.entry w (fun b => b < w.heap.size) B m d ws) (hk : Sl Enc.bool w (fun b => b < w.heap.size) D l e keep) :
    Calls Try.prog 4 #[.slice A n c, .slice B m d, .slice D l e] w fun e w' => e = .returned (.bool true) ∧ Below w.heap.size w w' := by
  have hln := h.len
  have hlm := g.len
  have hlk := hk.len
  have HA := Lib.hid (awake34 w)
  have HF := Lib.hid fun (W : World) (hb : Below w.heap.size w W) => few_any (h.all hb) (g.all hb)
  by_cases hfew : (im.all shortRow && (ws.all shortEntry && (decide (im.length ≤ 12) && decide (ws.length ≤ 14)))) = true
  · rw [hfew] at HF
    simp only [Bool.and_eq_true, decide_eq_true_eq] at hfew
    obtain ⟨hs1, hs2, hn12, hm14⟩ := hfew
    by_cases hl40 : l ≤ 40
    · have HP := Lib.hid fun (W : World) (hb : Below w.heap.size w W) => apply_any (h.all hb) (g.all hb) (hk.all hb) (by omega) (rows_of_all hs1) (entries_of_all hs2)
      have HW := Lib.hid fun (W : World) (hb : Below w.heap.size w W) => within_any (s := (n : Int)) (g.all hb)
      have HM := Lib.hid fun (W : World) (hb : Below w.heap.size w W) => May_any (h.all hb) (g.all hb) (h.all hb)
      have hmy := mayE_in (n := im.length) (ws := ws) hn12 hm14
      rw [hln] at hmy
      cases hin : ws.all (inSectors n) with
      | false =>
        rw [hin] at HW
        have e41 : mayE im.length ws = 41 := by rw [hln, hmy, hin]; rfl
        have hMB : mayB im ws im = false := mayB_not (by rw [e41]; decide)
        rw [hMB] at HM
        simp only [e41] at HP
        clear hs1 hs2 hn12 hm14 hmy hin e41 hMB h g hk hln hlm hlk
        go_enter Try.func4, Try.ntmps4
        go_wp2_with fail
        refine HA.out.mono ?_
        rintro e w1 ⟨rfl, hb1⟩
        have HF1 := Lib.hid (HF.out w1 hb1)
        go_wp2_with fail
        refine HF1.out.mono ?_
        rintro e w2 ⟨rfl, hb2⟩
        replace hb2 := below_then hb1 hb1.size hb2
        have HP2 := Lib.hid (HP.out w2 hb2)
        go_wp2_with fail
        refine HP2.out.mono ?_
        rintro e w3 ⟨hb3, v, F', rfl, ho, hF'⟩
        replace hb3 := below_then hb2 hb2.size hb3
        obtain ⟨A3, c3, rfl, -⟩ := ho.form
        have HW3 := Lib.hid (HW.out w3 hb3)
        clear ho hF'
        go_wp2_with fail
        refine HW3.out.mono ?_
        rintro e w4 ⟨rfl, hb4⟩
        replace hb4 := below_then hb3 hb3.size hb4
        have HM4 := Lib.hid (HM.out w4 hb4)
        go_wp2_with fail
        refine HM4.out.mono ?_
        rintro e w5 ⟨rfl, hb5⟩
        replace hb5 := below_then hb4 hb4.size hb5
        go_wp2
        go_ret
        exact ⟨rfl, hb5⟩
      | true =>
        rw [hin] at HW
        have e0 : mayE im.length ws = 0 := by rw [hln, hmy, hin]; rfl
        have hin0 := in_of_all hin
        have hMB : mayB im ws im = true := mayB_self e0
        have hMD : Hid (mayB im ws (doneTo (keepP keep) ws im ws.length) = true) := Lib.hid (mayB_done _ e0 (fun x hx => (hin0 x hx).1))
        rw [hMB] at HM
        simp only [e0, if_true] at HP
        have HD := Lib.hid fun (W : World) (hb : Below w.heap.size w W) => law_done (h.all hb) (g.all hb) (hk.all hb) hin0 (by omega)
        have HMS := Lib.hid fun (W : World) (hb : Below w.heap.size w W) (A' : Option Addr) (n' c' : Nat) (G' : Nat → Prop) (X : List (List Int)) (hs : Sl Enc.bytes W G' A' n' c' X) => May_any (h.all hb) (g.all hb) hs
        have HSS := Lib.hid fun (W : World) (hb : Below w.heap.size w W) => crash_same (h.all hb) (h.all hb)
        have hLl : Hid ((doneTo (keepP keep) ws im ws.length).length = n) := Lib.hid ((doneTo_length _ _ _ _).trans hln)
        have hn12' : n ≤ 12 := by omega
        clear hs1 hs2 hn12 hm14 hmy hin e0 hMB h g hk hln hlm hlk hin0
        generalize doneTo (keepP keep) ws im ws.length = L at *
        go_enter Try.func4, Try.ntmps4
        go_wp2_with fail
        refine HA.out.mono ?_
        rintro e w1 ⟨rfl, hb1⟩
        have HF1 := Lib.hid (HF.out w1 hb1)
        go_wp2_with fail
        refine HF1.out.mono ?_
        rintro e w2 ⟨rfl, hb2⟩
        replace hb2 := below_then hb1 hb1.size hb2
        have HP2 := Lib.hid (HP.out w2 hb2)
        go_wp2_with fail
        refine HP2.out.mono ?_
        rintro e w3 ⟨hb3, v, F', rfl, ho3, hF'⟩
        have hs23 := hb3.size
        replace hb3 := below_then hb2 hb2.size hb3
        obtain ⟨A3, c3, hv3, -, -, -⟩ := ho3.form
        rw [hLl.out] at hv3
        subst hv3
        obtain ⟨A3', c3', ev3, hs3⟩ := ho3.slT
        rw [hLl.out] at ev3 hs3
        cases ev3
        have HO3 := Lib.hid ho3
        have HS3 := Lib.hid hs3
        have HF' := Lib.hid hF'
        have HW3 := Lib.hid (HW.out w3 hb3)
        clear ho3 hs3 hF'
        go_wp2_with fail
        refine HW3.out.mono ?_
        rintro e w4 ⟨rfl, hb4⟩
        have hk4 := hb4
        replace hb4 := below_then hb3 hb3.size hb4
        have HD4 := Lib.hid (HD.out w4 hb4)
        go_wp2_with fail
        refine HD4.out.mono ?_
        rintro e w5 ⟨v5, rfl, ho5, hb5⟩
        have hs45 := hb5.size
        have hk5 := below_then hk4 hk4.size hb5
        replace hb5 := below_then hb4 hb4.size hb5
        obtain ⟨A5, c5, hv5, -, -, -⟩ := ho5.form
        rw [hLl.out] at hv5
        subst hv5
        obtain ⟨A5', c5', ev5, hs5⟩ := ho5.sl (F' := fun b => b < w.heap.size ∨ w4.heap.size ≤ b) (fun b hb => .inl (by rcases hb.1 with h | h <;> exact h)) (fun g hg => .inr (ho5.blk hg).1)
        rw [hLl.out] at ev5 hs5
        cases ev5
        have HS5 := Lib.hid hs5
        have HC5 := Lib.hid (same_rows (HS3.out.all hk5) hs5)
        have HC6 := Lib.hid fun (W : World) (hd : Dr w5 W) => crash_same ((HS3.out.all hk5).all hd.below) (hs5.all hd.below)
        simp only [decide_true] at HC5 HC6
        clear ho5 hs5
        go_wp2_with fail
        refine HC5.out.mono ?_
        rintro e w6 ⟨rfl, hd6⟩
        have HC6' := Lib.hid (HC6.out w6 hd6)
        go_wp2_with fail
        refine HC6'.out.mono ?_
        rintro e w7 ⟨rfl, hd7'⟩
        have hd7 := hd6.trans hd7'
        have hb7 := below_dr hb5 hd7
        have hk7 : Below w5.heap.size w5 w7 := hd7.below
        have HM7 := Lib.hid (HMS.out w7 hb7 _ _ _ _ _ ((HS3.out.all hk5).all hk7))
        rw [hMD.out] at HM7
        clear hd6 hd7' HC5 HC6 HC6' hd7
        go_wp2_with fail
        refine HM7.out.mono ?_
        rintro e w8 ⟨rfl, hb8⟩
        have hk8 := below_then hk7 hk7.size hb8
        replace hb8 := below_then hb7 hb7.size hb8
        have HM8 := Lib.hid (HM.out w8 hb8)
        go_wp2_with fail
        refine HM8.out.mono ?_
        rintro e w9 ⟨rfl, hb9⟩
        have hk9 := below_then hk8 hk8.size hb9
        replace hb9 := below_then hb8 hb8.size hb9
        have HX := Lib.hid ((HO3.out.all hk5).all hk9)
        have hF3 : Hid (∀ b, F' b → b < w3.heap.size) := Lib.hid HO3.out.lt
        have hsz34 := hk4.size
        go_wp2
        go_loopw [84] (fun i wr => ∃ k : Nat, k ≤ n ∧ i = .int .i64 k ∧ (∃ X, Own (Enc.obytes 5) 38 wr w2.heap.size F' (.slice A3 n c3) X) ∧ But F' w9 wr) (fun i _ => n - (intOf i).toNat)
        case atStart => exact ⟨0, by omega, by simp, ⟨_, HX.out⟩, .refl _ _⟩
        case round =>
          obtain ⟨k, hk, rfl, ⟨X, hx⟩, hbt⟩ := hrel
          have hXl := hx.len
          by_cases hlt : k < n
          · obtain ⟨gb, hA, hgb, hgl⟩ := hx.blockOf (by omega)
            subst hA
            obtain ⟨u, hu1, hu2, v2, hv2, hov, hFv⟩ := hx.cell1 rfl k (by omega)
            injection hv2 with hv2; subst hv2
            obtain ⟨A6, c6, rfl, -, -, -⟩ := hov.form
            obtain ⟨xk, hxk⟩ : ∃ xk, X[k]'(by omega) = xk := ⟨_, rfl⟩
            rw [hxk] at hu1 hov hFv
            clear hxk
            obtain ⟨q, hq⟩ : ∃ q, xk.length = q := ⟨_, rfl⟩
            rw [hq] at hu1 hov hFv
            have hqm : q ≤ 9223372036854775807 := by
              obtain ⟨_, _, e6, h6, h7, _⟩ := hov.form
              cases e6; omega
            have HX2 := Lib.hid hx
            have HB2 := Lib.hid hbt
            have HV := Lib.hid hov
            have HFV := Lib.hid hFv
            have hgF : Hid (¬ F' gb) := Lib.hid (hx.not _ rfl)
            clear hx hbt hov hFv hXl hq
            go_wp2
            go_loopw [90] (fun i wq => ∃ j : Nat, j ≤ q ∧ i = .int .i64 j ∧ (∃ X, Own (Enc.obytes 5) 38 wq w2.heap.size F' (.slice (some ⟨gb, 0, none⟩) n c3) X) ∧ (∃ Y, Own Enc.u8 5 wq 0 (fun _ => False) (.slice A6 q c6) Y) ∧ But F' w9 wq) (fun i _ => q - (intOf i).toNat)
            case atStart => exact ⟨0, by omega, by simp, ⟨_, HX2.out⟩, ⟨_, HV.out⟩, HB2.out⟩
            case round =>
              obtain ⟨j, hj, rfl, ⟨X', hx'⟩, ⟨Y, hy⟩, hbt'⟩ := hrel
              have hYl := hy.len
              by_cases hjq : j < q
              · obtain ⟨gc, hA, _, hgcl⟩ := hy.blockOf (by omega)
                subst hA
                obtain ⟨u, hc1, hc2, hcu, hcw⟩ := hy.cell1 rfl j (by omega)
                injection hcu with hcu; subst hcu
                have hFc : F' gc := HFV.out gc rfl
                obtain ⟨yj, hyj⟩ : ∃ yj, Y[j]'(by omega) = yj := ⟨_, rfl⟩
                rw [hyj] at hc1
                clear hyj
                have HXP := Lib.hid (hx'.pokeRows (i := j) hFc (wf_wrap .u8 (yj + 1)))
                have HYP := Lib.hid (hy.poke (g := gc) (i := j) (wf_wrap .u8 (yj + 1)))
                have HBP := Lib.hid (hbt'.setCell (p := ⟨gc, j, none⟩) hFc (.int .u8 (IntKind.u8.wrap (yj + 1))))
                clear hx' hy hbt' hcw hYl hFc
                go_wp2
                go_roundw
                case rel => exact ⟨j + 1, by omega, by go_num, HXP.out, HYP.out, HBP.out⟩
                case measure => simp [intOf]; omega
              · have HX3 : Hid (∃ X, Own (Enc.obytes 5) 38 wr w2.heap.size F' (.slice (some ⟨gb, 0, none⟩) n c3) X) := Lib.hid ⟨_, hx'⟩
                have HB3 := Lib.hid hbt'
                clear hx' hy hbt' hYl
                go_wp2
                go_roundw
                case rel => exact ⟨k + 1, by omega, by go_num, HX3.out, HB3.out⟩
                case measure => simp [intOf]; omega
          · have hF2 : ∀ b, F' b → w2.heap.size ≤ b := HF'.out
            have hbr : Below w.heap.size w wr := hb9.trans (hbt.below fun b hb => Nat.le_trans hb2.size (hF2 b hb))
            have HDr := Lib.hid (HD.out wr hbr)
            have hs9 := hk9.size
            have hb9s := hb9.size
            have hb2s := hb2.size
            have hF3' : ∀ b, F' b → b < w3.heap.size := hF3.out
            -- the law's own row lies as it lay
            have hKY : KeepF w9 wr (fun b => b < w.heap.size ∨ w4.heap.size ≤ b) (fun b => b < w.heap.size ∨ w4.heap.size ≤ b) := fun b hb _ => ⟨hbt.block b (fun hf => by
              have h1 := hF2 b hf; have h2 := hF3' b hf
              rcases hb with hb | hb <;> omega), hb⟩
            have hYr := (HS5.out.all hk9).keep hKY
            go_wp2_with fail
            refine HDr.out.mono ?_
            rintro e w10 ⟨v10, rfl, ho10, hb10⟩
            have hb10' := below_then hbr hbr.size hb10
            obtain ⟨A10, c10, hv10, hs10⟩ := ho10.sl (F' := fun _ => True) (fun _ _ => trivial) (fun _ _ => trivial)
            rw [hLl.out] at hv10 hs10
            subst hv10
            have HC10 := Lib.hid (same_rows (hYr.all hb10) hs10)
            simp only [decide_true] at HC10
            clear ho10 hs10 hYr hKY hx
            go_wp2_with fail
            refine HC10.out.mono ?_
            rintro e w11 ⟨rfl, hd11⟩
            have hb11 := below_dr hb10' hd11
            have HC11 := Lib.hid (HSS.out w11 hb11)
            simp only [decide_true] at HC11
            go_wp2_with fail
            refine HC11.out.mono ?_
            rintro e w12 ⟨rfl, hd12⟩
            go_wp2
            go_ret
            exact ⟨rfl, below_dr hb11 hd12⟩
    · clear hs1 hs2 hn12 hm14 h g hk hln hlm hlk
      go_enter Try.func4, Try.ntmps4
      go_wp2_with fail
      refine HA.out.mono ?_
      rintro e w1 ⟨rfl, hb1⟩
      have HF1 := Lib.hid (HF.out w1 hb1)
      go_wp2_with fail
      refine HF1.out.mono ?_
      rintro e w2 ⟨rfl, hb2⟩
      replace hb2 := below_then hb1 hb1.size hb2
      go_wp2
      go_ret
      exact ⟨rfl, hb2⟩
  · rw [Bool.not_eq_true] at hfew
    rw [hfew] at HF
    clear h g hk hln hlm hlk hfew
    go_enter Try.func4, Try.ntmps4
    go_wp2_with fail
    refine HA.out.mono ?_
    rintro e w1 ⟨rfl, hb1⟩
    have HF1 := Lib.hid (HF.out w1 hb1)
    go_wp2_with fail
    refine HF1.out.mono ?_
    rintro e w2 ⟨rfl, hb2⟩
    replace hb2 := below_then hb1 hb1.size hb2
    go_wp2
    go_ret
    exact ⟨rfl, hb2⟩
end
end Go.Proofs.Ytdgcfgiedclmcaa
