/- Contract: crash.May. -/
import Derived.Test.YtdgcfgiedclmcaaC5
namespace Go.Proofs.Ytdgcfgiedclmcaa
open Go.RowKit

def fitsW (b : List Int) (i : Nat) (x : Entry) : Bool := decide (x.1 = i) && decide (b = x.2)
/-- may b stand at place i, behind the first j writes? -/
def okTo (im : List (List Int)) (ws : List Entry) (b : List Int) (i j : Nat) : Bool := decide (b = im.getD i []) || (ws.take j).any (fitsW b i)
def okAt (im : List (List Int)) (ws : List Entry) (left : List (List Int)) (i : Nat) : Bool := okTo im ws (left.getD i []) i ws.length
def mayB (im : List (List Int)) (ws : List Entry) (left : List (List Int)) : Bool :=
  decide (mayE im.length ws = 0) && (decide (left.length = im.length) && (List.range left.length).all (okAt im ws left))
theorem okTo_succ {im : List (List Int)} {ws : List Entry} {b : List Int} {i j : Nat} (hj : j < ws.length) : okTo im ws b i (j + 1) = (okTo im ws b i j || fitsW b i ws[j]) := by
  simp only [okTo]
  rw [List.take_succ_eq_append_getElem hj, List.any_append]
  simp [Bool.or_assoc]
section
variable {w : World} {F G H : Nat → Prop} {A B D : Option Addr} {n c m d l e : Nat}
set_option maxHeartbeats 1000000 in
theorem May_any {im left : List (List Int)} {ws : List Entry} (h : Sl Enc.bytes w F A n c im) (g : Sl Enc.entry w G B m d ws) (hl : Sl Enc.bytes w H D l e left) :
    Calls Try.prog 18 #[.slice A n c, .slice B m d, .slice D l e] w fun e w' => e = .returned (.bool (mayB im ws left)) ∧ Below w.heap.size w w' := by
  have hlm := hl.max
  have hgm := g.max
  have hln := h.len
  have hll := hl.len
  have hlg := g.len
  have HM := Lib.hid (may_any (s := (n : Int)) g)
  have HE : Hid (mayE im.length ws = mayE n ws) := Lib.hid (by rw [hln])
  by_cases h0 : mayE n ws = 0
  · rw [h0] at HM
    have hb0 : ((0 : Int) != 0) = false := by simp
    by_cases h1 : l = n
    · subst h1
      have hb1 : ((l : Int) != (l : Int)) = false := by simp
      have HR : Hid (mayB im ws left = (List.range left.length).all (okAt im ws left)) := Lib.hid (by simp [mayB, h0, hln, hll])
      generalize mayB im ws left = r at HR ⊢
      clear h0
      go_enter Try.func18, Try.ntmps18
      go_wp2_with fail
      refine HM.out.mono ?_
      rintro e w1 ⟨rfl, hd1⟩
      have hsz1 := hd1.size
      go_wp2
      go_loopw [26] (fun i wr => ∃ k : Nat, k ≤ l ∧ i = .int .i64 k ∧ (List.range k).all (okAt im ws left) = true ∧ Below w.heap.size w wr) (fun i _ => l - (intOf i).toNat)
      case atStart => exact ⟨0, by omega, by simp, by simp, hd1⟩
      case round =>
        clear hsz1 hd1
        obtain ⟨k, hk, rfl, ht, hd⟩ := hrel
        have hsz := hd.size
        have HT := Lib.hid ht; clear ht
        by_cases hlt : k < l
        · have hka : k < left.length := by omega
          have hkb : k < im.length := by omega
          obtain ⟨ad, A1, n1, c1, rfl, -, hca, hsa⟩ := (hl.all hd).slice k hka
          obtain ⟨bd, B1, m1, d1, rfl, -, hcb, hsb⟩ := (h.all hd).slice k hkb
          have HC := Lib.hid (bytes_equal hsa hsb)
          have HSA := Lib.hid hsa
          have HST : Hid (decide (left[k] = im[k]) = okTo im ws left[k] k 0) := Lib.hid (by simp [okTo, List.getD, hkb])
          have HG : Hid (left.getD k [] = left[k]) := Lib.hid (by simp [List.getD, hka])
          have HH := Lib.hid h; have HL := Lib.hid hl
          rw [HST.out] at HC
          clear hsa hsb h hl HST
          go_wp2_with fail
          refine HC.out.mono ?_
          rintro e w2 ⟨rfl, hd2⟩
          have hd3 := below_dr hd hd2
          have hs3 := hd2.size
          have HSB := Lib.hid (HSA.out.all hd2.below)
          clear hd HC HSA
          go_wp2
          go_loopw [9, 39] (fun o i wr => ∃ j : Nat, j ≤ m ∧ i = .int .i64 j ∧ o = .bool (okTo im ws left[k] k j) ∧ Below w2.heap.size w2 wr) (fun _ i _ => m - (intOf i).toNat)
          case atStart => exact ⟨0, by omega, by simp, rfl, .refl _ _⟩
          case round =>
            obtain ⟨j, hj, rfl, rfl, hdj⟩ := hrel
            have hszj := hdj.size
            have hd4 := below_then hd3 (by omega) hdj
            by_cases hjm : j < m
            · have hja := g.lt hjm
              obtain ⟨gd, B2, m2, d2, rfl, -, hc1, hc2, hs2⟩ := (g.all hd4).entry j hja
              have hb2 := below_box (Below.refl wr.heap.size wr) (Nat.le_refl _) (.cells #[.int .i64 ws[j].1, .slice B2 m2 d2] 43)
              have HC2 := Lib.hid (bytes_equal ((HSB.out.all hdj).all hb2) (hs2.all hb2))
              have HGG := Lib.hid g
              have HOK := Lib.hid (okTo_succ (im := im) (b := left[k]) (i := k) hja)
              have HFW : Hid (fitsW left[k] k ws[j] = (decide (ws[j].1 = k) && decide (left[k] = ws[j].2))) := Lib.hid rfl
              have hd5 := hdj.alloc hszj (.cells #[.int .i64 ws[j].1, .slice B2 m2 d2] 43)
              clear hs2 g
              generalize okTo im ws left[k] k j = ok at *
              cases ok with
              | true =>
                go_wp2
                go_roundw
                case rel => exact ⟨j + 1, by omega, by go_num, by rw [HOK.out]; rfl, hd5⟩
                case measure => simp [intOf]; omega
              | false =>
                by_cases hx : ws[j].1 = k
                · have hxb : (ws[j].1 == (k : Int)) = true := by simp [hx]
                  have HX := Lib.hid hx; clear hx
                  go_wp2_with fail
                  refine HC2.out.mono ?_
                  rintro e w5 ⟨rfl, hd6⟩
                  go_wp2
                  go_roundw
                  case rel => exact ⟨j + 1, by omega, by go_num, by rw [HOK.out, HFW.out, HX.out]; simp, below_dr hd5 hd6⟩
                  case measure => simp [intOf]; omega
                · have hxb : (ws[j].1 == (k : Int)) = false := by simp [hx]
                  have HX := Lib.hid hx; clear hx
                  go_wp2
                  go_roundw
                  case rel => exact ⟨j + 1, by omega, by go_num, by rw [HOK.out, HFW.out]; simp [HX.out], hd5⟩
                  case measure => simp [intOf]; omega
            · have hjm' : j = m := by omega
              subst hjm'
              have HOA : Hid (okAt im ws left k = okTo im ws left[k] k j) := Lib.hid (by rw [okAt, HG.out, hlg])
              generalize okTo im ws left[k] k j = ok at *
              cases ok with
              | true =>
                go_wp2
                go_roundw
                case rel => exact ⟨k + 1, by omega, by go_num, range_all_succ HT.out HOA.out, hd4⟩
                case measure => simp [intOf]; omega
              | false =>
                go_wp2
                go_ret
                exact ⟨ret_bool (by rw [HR.out, range_all_false hka HOA.out]), hd4⟩
        · have hkl : k = left.length := by omega
          go_wp2
          go_ret
          exact ⟨ret_bool (by rw [HR.out, ← hkl, HT.out]), hd⟩
    · have hb1 : ((l : Int) != (n : Int)) = true := by simp; omega
      have HR : Hid (mayB im ws left = false) := Lib.hid (by simp [mayB, hln, hll, h1])
      generalize mayB im ws left = r at HR ⊢
      clear h0
      go_enter Try.func18, Try.ntmps18
      go_wp2_with fail
      refine HM.out.mono ?_
      rintro e w1 ⟨rfl, hd1⟩
      go_wp2
      go_ret
      exact ⟨ret_bool (by rw [HR.out]), hd1⟩
  · have hne : ((mayE n ws) != 0) = true := by simpa using h0
    have HR : Hid (mayB im ws left = false) := Lib.hid (by simp [mayB, HE.out, h0])
    generalize mayB im ws left = r at HR ⊢
    clear h0 HE
    generalize mayE n ws = q at *
    go_enter Try.func18, Try.ntmps18
    go_wp2_with fail
    refine HM.out.mono ?_
    rintro e w1 ⟨rfl, hd1⟩
    go_wp2
    go_ret
    exact ⟨ret_bool (by rw [HR.out]), hd1⟩
end
end Go.Proofs.Ytdgcfgiedclmcaa
