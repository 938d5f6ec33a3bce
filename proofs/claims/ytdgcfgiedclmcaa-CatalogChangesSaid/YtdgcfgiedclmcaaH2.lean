/- Contracts of law27: same, list, few, listed; catalog.may. -/
import Derived.Test.YtdgcfgiedclmcaaH1
import Derived.Test.YtdgcfgiedclmcaaC4
import Derived.Test.YtdgcfgiedclmcaaQ
namespace Go.Proofs.Ytdgcfgiedclmcaa
open Go.RowKit

section
variable {w : World} {F G : Nat → Prop} {A B : Option Addr} {n c m d : Nat}
theorem space_ne {x y : Space} (h : ¬ (x.id = y.id ∧ x.tenant = y.tenant ∧ x.sectors = y.sectors ∧ x.root = y.root ∧ x.ext = y.ext ∧ x.tree = y.tree ∧ x.sums = y.sums)) : decide (x = y) = false := by
  refine decide_eq_false fun e => h ?_
  subst e; exact ⟨rfl, rfl, rfl, rfl, rfl, rfl, rfl⟩
set_option maxHeartbeats 1000000 in
theorem same_space {vs us : List Value} {x y : Space} (hx : Enc.space.rel w F vs x) (hy : Enc.space.rel w G us y) :
    Calls Try.prog 50 #[.agg vs.toArray, .agg us.toArray] w fun e w' => e = .returned (.bool (decide (x = y))) ∧ Below w.heap.size w w' := by
  obtain ⟨Ar, nr, cr, Ae, ce, At, ct, As, cs, rfl, -, -, -, hr, -, -, -⟩ := hx
  obtain ⟨Br, mr, dr, Be, de, Bt, dt, Bs, ds, rfl, -, -, -, hs, -, -, -⟩ := hy
  obtain ⟨x0, x1, x2, x3, x4, x5, x6⟩ := x
  obtain ⟨y0, y1, y2, y3, y4, y5, y6⟩ := y
  dsimp only at *
  have key : ∀ r, decide ((⟨x0, x1, x2, x3, x4, x5, x6⟩ : Space) = ⟨y0, y1, y2, y3, y4, y5, y6⟩) = r → Calls Try.prog 50 #[.agg #[.int .i64 x0, .int .i64 x1, .int .i64 x2, .slice Ar nr cr, .slice Ae x4 ce, .slice At x5 ct, .slice As x6 cs], .agg #[.int .i64 y0, .int .i64 y1, .int .i64 y2, .slice Br mr dr, .slice Be y4 de, .slice Bt y5 dt, .slice Bs y6 ds]] w fun e w' => e = .returned (.bool r) ∧ Below w.heap.size w w' := by
    intro r hr'
    have HR := Lib.hid hr'; clear hr'
    have hbx : Below w.heap.size w ((w.alloc (.cells #[.int .i64 x0, .int .i64 x1, .int .i64 x2, .slice Ar nr cr, .slice Ae x4 ce, .slice At x5 ct, .slice As x6 cs] 77)).alloc (.cells #[.int .i64 y0, .int .i64 y1, .int .i64 y2, .slice Br mr dr, .slice Be y4 de, .slice Bt y5 dt, .slice Bs y6 ds] 77)) := ((Below.refl _ w).alloc (Nat.le_refl _) _).alloc (by simp) _
    have HB := Lib.hid hbx
    have HC := Lib.hid (same_bytes (hr.all hbx) (hs.all hbx))
    clear hr hs hbx
    by_cases h0 : x0 = y0
    · subst h0
      have e0 : (x0 == x0) = true := by simp
      by_cases h1 : x1 = y1
      · subst h1
        have e1 : (x1 == x1) = true := by simp
        by_cases h2 : x2 = y2
        · subst h2
          have e2 : (x2 == x2) = true := by simp
          by_cases h3 : x3 = y3
          · subst h3
            simp only [decide_true] at HC
            by_cases h4 : x4 = y4
            · subst h4
              have e4 : ((x4 : Int) == (x4 : Int)) = true := by simp
              by_cases h5 : x5 = y5
              · subst h5
                have e5 : ((x5 : Int) == (x5 : Int)) = true := by simp
                by_cases h6 : x6 = y6
                · subst h6
                  have e6 : ((x6 : Int) == (x6 : Int)) = true := by simp
                  have HR : Hid (true = r) := Lib.hid (by rw [← HR.out]; simp)
                  go_enter Try.func50, Try.ntmps50
                  go_wp2_with fail
                  refine HC.out.mono ?_
                  rintro e w1 ⟨rfl, hd1⟩
                  have hsz := hd1.size
                  simp only [World.size_alloc] at hsz
                  have ca4 := hd1.cell (a := ⟨w.heap.size, 4, none⟩) (v := .slice Ae x4 ce) (by simp)
                  have ca5 := hd1.cell (a := ⟨w.heap.size, 5, none⟩) (v := .slice At x5 ct) (by simp)
                  have ca6 := hd1.cell (a := ⟨w.heap.size, 6, none⟩) (v := .slice As x6 cs) (by simp)
                  have cb4 := hd1.cell (a := ⟨w.heap.size + 1, 4, none⟩) (v := .slice Be x4 de) (by simp)
                  have cb5 := hd1.cell (a := ⟨w.heap.size + 1, 5, none⟩) (v := .slice Bt x5 dt) (by simp)
                  have cb6 := hd1.cell (a := ⟨w.heap.size + 1, 6, none⟩) (v := .slice Bs x6 ds) (by simp)
                  have HD := Lib.hid hd1
                  clear hd1
                  go_wp2
                  go_ret
                  exact ⟨ret_bool HR.out, below_dr HB.out HD.out⟩
                · have HR : Hid (false = r) := Lib.hid (by rw [← HR.out]; exact (space_ne (fun h => h6 (by simpa using h.2.2.2.2.2.2))).symm)
                  have e6 : ((x6 : Int) == (y6 : Int)) = false := by simp; omega
                  clear h6
                  go_enter Try.func50, Try.ntmps50
                  go_wp2_with fail
                  refine HC.out.mono ?_
                  rintro e w1 ⟨rfl, hd1⟩
                  have hsz := hd1.size
                  simp only [World.size_alloc] at hsz
                  have ca4 := hd1.cell (a := ⟨w.heap.size, 4, none⟩) (v := .slice Ae x4 ce) (by simp)
                  have ca5 := hd1.cell (a := ⟨w.heap.size, 5, none⟩) (v := .slice At x5 ct) (by simp)
                  have ca6 := hd1.cell (a := ⟨w.heap.size, 6, none⟩) (v := .slice As x6 cs) (by simp)
                  have cb4 := hd1.cell (a := ⟨w.heap.size + 1, 4, none⟩) (v := .slice Be x4 de) (by simp)
                  have cb5 := hd1.cell (a := ⟨w.heap.size + 1, 5, none⟩) (v := .slice Bt x5 dt) (by simp)
                  have cb6 := hd1.cell (a := ⟨w.heap.size + 1, 6, none⟩) (v := .slice Bs y6 ds) (by simp)
                  have HD := Lib.hid hd1
                  clear hd1
                  go_wp2
                  go_ret
                  exact ⟨ret_bool HR.out, below_dr HB.out HD.out⟩
              · have HR : Hid (false = r) := Lib.hid (by rw [← HR.out]; exact (space_ne (fun h => h5 (by simpa using h.2.2.2.2.2.1))).symm)
                have e5 : ((x5 : Int) == (y5 : Int)) = false := by simp; omega
                clear h5
                go_enter Try.func50, Try.ntmps50
                go_wp2_with fail
                refine HC.out.mono ?_
                rintro e w1 ⟨rfl, hd1⟩
                have hsz := hd1.size
                simp only [World.size_alloc] at hsz
                have ca4 := hd1.cell (a := ⟨w.heap.size, 4, none⟩) (v := .slice Ae x4 ce) (by simp)
                have ca5 := hd1.cell (a := ⟨w.heap.size, 5, none⟩) (v := .slice At x5 ct) (by simp)
                have ca6 := hd1.cell (a := ⟨w.heap.size, 6, none⟩) (v := .slice As x6 cs) (by simp)
                have cb4 := hd1.cell (a := ⟨w.heap.size + 1, 4, none⟩) (v := .slice Be x4 de) (by simp)
                have cb5 := hd1.cell (a := ⟨w.heap.size + 1, 5, none⟩) (v := .slice Bt y5 dt) (by simp)
                have cb6 := hd1.cell (a := ⟨w.heap.size + 1, 6, none⟩) (v := .slice Bs y6 ds) (by simp)
                have HD := Lib.hid hd1
                clear hd1
                go_wp2
                go_ret
                exact ⟨ret_bool HR.out, below_dr HB.out HD.out⟩
            · have HR : Hid (false = r) := Lib.hid (by rw [← HR.out]; exact (space_ne (fun h => h4 (by simpa using h.2.2.2.2.1))).symm)
              have e4 : ((x4 : Int) == (y4 : Int)) = false := by simp; omega
              clear h4
              go_enter Try.func50, Try.ntmps50
              go_wp2_with fail
              refine HC.out.mono ?_
              rintro e w1 ⟨rfl, hd1⟩
              have hsz := hd1.size
              simp only [World.size_alloc] at hsz
              have ca4 := hd1.cell (a := ⟨w.heap.size, 4, none⟩) (v := .slice Ae x4 ce) (by simp)
              have ca5 := hd1.cell (a := ⟨w.heap.size, 5, none⟩) (v := .slice At x5 ct) (by simp)
              have ca6 := hd1.cell (a := ⟨w.heap.size, 6, none⟩) (v := .slice As x6 cs) (by simp)
              have cb4 := hd1.cell (a := ⟨w.heap.size + 1, 4, none⟩) (v := .slice Be y4 de) (by simp)
              have cb5 := hd1.cell (a := ⟨w.heap.size + 1, 5, none⟩) (v := .slice Bt y5 dt) (by simp)
              have cb6 := hd1.cell (a := ⟨w.heap.size + 1, 6, none⟩) (v := .slice Bs y6 ds) (by simp)
              have HD := Lib.hid hd1
              clear hd1
              go_wp2
              go_ret
              exact ⟨ret_bool HR.out, below_dr HB.out HD.out⟩
          · have HR : Hid (false = r) := Lib.hid (by rw [← HR.out]; exact (space_ne (fun h => h3 (by simpa using h.2.2.2.1))).symm)
            rw [decide_eq_false h3] at HC
            clear h3
            go_enter Try.func50, Try.ntmps50
            go_wp2_with fail
            refine HC.out.mono ?_
            rintro e w1 ⟨rfl, hd1⟩
            have hsz := hd1.size
            simp only [World.size_alloc] at hsz
            have ca4 := hd1.cell (a := ⟨w.heap.size, 4, none⟩) (v := .slice Ae x4 ce) (by simp)
            have ca5 := hd1.cell (a := ⟨w.heap.size, 5, none⟩) (v := .slice At x5 ct) (by simp)
            have ca6 := hd1.cell (a := ⟨w.heap.size, 6, none⟩) (v := .slice As x6 cs) (by simp)
            have cb4 := hd1.cell (a := ⟨w.heap.size + 1, 4, none⟩) (v := .slice Be y4 de) (by simp)
            have cb5 := hd1.cell (a := ⟨w.heap.size + 1, 5, none⟩) (v := .slice Bt y5 dt) (by simp)
            have cb6 := hd1.cell (a := ⟨w.heap.size + 1, 6, none⟩) (v := .slice Bs y6 ds) (by simp)
            have HD := Lib.hid hd1
            clear hd1
            go_wp2
            go_ret
            exact ⟨ret_bool HR.out, below_dr HB.out HD.out⟩
        · have HR : Hid (false = r) := Lib.hid (by rw [← HR.out]; exact (space_ne (fun h => h2 (by simpa using h.2.2.1))).symm)
          have e2 : (x2 == y2) = false := by simpa using h2
          clear h2
          go_enter Try.func50, Try.ntmps50
          go_wp2
          go_ret
          exact ⟨ret_bool HR.out, HB.out⟩
      · have HR : Hid (false = r) := Lib.hid (by rw [← HR.out]; exact (space_ne (fun h => h1 (by simpa using h.2.1))).symm)
        have e1 : (x1 == y1) = false := by simpa using h1
        clear h1
        go_enter Try.func50, Try.ntmps50
        go_wp2
        go_ret
        exact ⟨ret_bool HR.out, HB.out⟩
    · have HR : Hid (false = r) := Lib.hid (by rw [← HR.out]; exact (space_ne (fun h => h0 (by simpa using h.1))).symm)
      have e0 : (x0 == y0) = false := by simpa using h0
      clear h0
      go_enter Try.func50, Try.ntmps50
      go_wp2
      go_ret
      exact ⟨ret_bool HR.out, HB.out⟩
  exact key _ rfl
end
end Go.Proofs.Ytdgcfgiedclmcaa
