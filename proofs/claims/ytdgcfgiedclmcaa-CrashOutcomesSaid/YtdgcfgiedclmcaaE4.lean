/- The walk of the law CrashOutcomes. -/
import Derived.Test.YtdgcfgiedclmcaaE5
namespace Go.Proofs.Ytdgcfgiedclmcaa
open Go.RowKit

section
variable {w : World} {F G H : Nat → Prop} {A B D : Option Addr} {n c m d l e : Nat}
set_option maxRecDepth 100000 in
set_option maxHeartbeats 4000000 in
theorem outcomes_walk {im left : List (List Int)} {ws : List Entry} (h : Sl Enc.bytes w (fun b => b < w.heap.size) A n c im) (g : Sl Enc.entry w (fun b => b < w.heap.size) B m d ws) (hl : Sl Enc.bytes w (fun b => b < w.heap.size) D l e left) :
    Calls Try.prog 3 #[.slice A n c, .slice B m d, .slice D l e] w fun e w' => e = .returned (.bool true) ∧ Below w.heap.size w w' := by
  have hln := h.len
  have hlm := g.len
  have HA := Lib.hid (awake34 w)
  have HF := Lib.hid fun (W : World) (hb : Below w.heap.size w W) => few_any (h.all hb) (g.all hb)
  by_cases hfew : (im.all shortRow && (ws.all shortEntry && (decide (im.length ≤ 12) && decide (ws.length ≤ 14)))) = true
  · rw [hfew] at HF
    simp only [Bool.and_eq_true, decide_eq_true_eq] at hfew
    obtain ⟨hs1, hs2, hn12, hm14⟩ := hfew
    have HP := Lib.hid fun (W : World) (hb : Below w.heap.size w W) => outcomes_any (h.all hb) (g.all hb) (by omega) (rows_of_all hs1) (entries_of_all hs2)
    have HW := Lib.hid fun (W : World) (hb : Below w.heap.size w W) => within_any (s := (n : Int)) (g.all hb)
    have hmy := mayE_in (n := im.length) (ws := ws) hn12 hm14
    rw [hln] at hmy
    cases hin : ws.all (inSectors n) with
    | false =>
      rw [hin] at HW
      have e41 : mayE im.length ws = 41 := by rw [hln, hmy, hin]; rfl
      have eE : outE im ws = 41 := by simp [outE, e41]
      have eR : outR im ws = [] := by simp [outR, eE]
      simp only [eE, eR] at HP
      clear hs1 hs2 hn12 hm14 hmy hin e41 eE eR h g hl hln hlm
      go_enter Try.func3, Try.ntmps3
      go_wp2_with fail
      refine HA.out.mono ?_
      rintro e w1 ⟨rfl, hb1⟩
      have HF1 := Lib.hid (HF.out w1 hb1)
      go_wp2_with fail
      refine HF1.out.mono ?_
      rintro e w2 ⟨rfl, hb2⟩
      replace hb2 := below_then hb1 hb1.size hb2
      have HP2 := Lib.hid (HP.out w2 hb2)
      go_wp2_with fail
      refine HP2.out.mono ?_
      rintro e w3 ⟨hb3, A3, n3, c3, rfl, ho⟩
      replace hb3 := below_then hb2 hb2.size hb3
      obtain rfl : n3 = 0 := ho.1
      have HW3 := Lib.hid (HW.out w3 hb3)
      clear ho
      go_wp2_with fail
      refine HW3.out.mono ?_
      rintro e w4 ⟨rfl, hb4⟩
      replace hb4 := below_then hb3 hb3.size hb4
      go_wp2
      go_ret
      exact ⟨rfl, hb4⟩
    | true =>
      rw [hin] at HW
      have e0 : mayE im.length ws = 0 := by rw [hln, hmy, hin]; rfl
      have hin0 := in_of_all hin
      by_cases hm10 : m ≤ 10
      · have eE : outE im ws = 0 := by simp only [outE, e0, if_true, hlm]; rw [if_neg (by omega)]
        by_cases hm6 : m ≤ 6
        · exact outcomes_main h g hl hm6 hs1 hs2 hn12 hm14 hin
        · simp only [eE] at HP
          clear hs1 hs2 hn12 hmy hin e0 eE h g hl hln hlm hin0
          go_enter Try.func3, Try.ntmps3
          go_wp2_with fail
          refine HA.out.mono ?_
          rintro e w1 ⟨rfl, hb1⟩
          have HF1 := Lib.hid (HF.out w1 hb1)
          go_wp2_with fail
          refine HF1.out.mono ?_
          rintro e w2 ⟨rfl, hb2⟩
          replace hb2 := below_then hb1 hb1.size hb2
          have HP2 := Lib.hid (HP.out w2 hb2)
          go_wp2_with fail
          refine HP2.out.mono ?_
          rintro e w3 ⟨hb3, A3, n3, c3, rfl, ho⟩
          replace hb3 := below_then hb2 hb2.size hb3
          have HW3 := Lib.hid (HW.out w3 hb3)
          clear ho
          go_wp2_with fail
          refine HW3.out.mono ?_
          rintro e w4 ⟨rfl, hb4⟩
          replace hb4 := below_then hb3 hb3.size hb4
          go_wp2
          go_ret
          exact ⟨rfl, hb4⟩
      · have eE : outE im ws = 3 := by simp only [outE, e0, if_true, hlm]; rw [if_pos (by omega)]
        have eR : outR im ws = [] := by simp [outR, eE]
        simp only [eE, eR] at HP
        clear hs1 hs2 hn12 hmy hin e0 eE eR h g hl hln hlm hin0
        go_enter Try.func3, Try.ntmps3
        go_wp2_with fail
        refine HA.out.mono ?_
        rintro e w1 ⟨rfl, hb1⟩
        have HF1 := Lib.hid (HF.out w1 hb1)
        go_wp2_with fail
        refine HF1.out.mono ?_
        rintro e w2 ⟨rfl, hb2⟩
        replace hb2 := below_then hb1 hb1.size hb2
        have HP2 := Lib.hid (HP.out w2 hb2)
        go_wp2_with fail
        refine HP2.out.mono ?_
        rintro e w3 ⟨hb3, A3, n3, c3, rfl, ho⟩
        replace hb3 := below_then hb2 hb2.size hb3
        obtain rfl : n3 = 0 := ho.1
        have HW3 := Lib.hid (HW.out w3 hb3)
        clear ho
        go_wp2_with fail
        refine HW3.out.mono ?_
        rintro e w4 ⟨rfl, hb4⟩
        replace hb4 := below_then hb3 hb3.size hb4
        go_wp2
        go_ret
        exact ⟨rfl, hb4⟩
  · rw [Bool.not_eq_true] at hfew
    rw [hfew] at HF
    clear h g hl hln hlm hfew
    go_enter Try.func3, Try.ntmps3
    go_wp2_with fail
    refine HA.out.mono ?_
    rintro e w1 ⟨rfl, hb1⟩
    have HF1 := Lib.hid (HF.out w1 hb1)
    go_wp2_with fail
    refine HF1.out.mono ?_
    rintro e w2 ⟨rfl, hb2⟩
    replace hb2 := below_then hb1 hb1.size hb2
    go_wp2
    go_ret
    exact ⟨rfl, hb2⟩
end
end Go.Proofs.Ytdgcfgiedclmcaa
