/- Contracts of law27: list, few, listed; catalog.may, Listed. -/
import Derived.Test.YtdgcfgiedclmcaaH2
namespace Go.Proofs.Ytdgcfgiedclmcaa
open Go.RowKit

def fewSpace (x : Space) : Bool := decide (x.root.length ≤ 100)
section
variable {w : World} {F G : Nat → Prop} {A B : Option Addr} {n c m d : Nat}
set_option maxHeartbeats 1000000 in
theorem list_spaces {a b : List Space} (ha : Sl Enc.space w F A n c a) (hb : Sl Enc.space w G B m d b) :
    Calls Try.prog 48 #[.slice A n c, .slice B m d] w fun e w' => e = .returned (.bool (decide (a = b))) ∧ Below w.heap.size w w' := by
  have hn := ha.max
  by_cases hl : n = m
  · subst hl
    have HL := Lib.hid (ha.len.trans hb.len.symm)
    have hlb : ((n : Int) != (n : Int)) = false := by simp
    go_enter Try.func48, Try.ntmps48
    go_wp2
    go_loopw [13] (fun i wr => ∃ k : Nat, k ≤ n ∧ i = .int .i64 k ∧ a.take k = b.take k ∧ Below w.heap.size w wr) (fun i _ => n - (intOf i).toNat)
    case atStart => exact ⟨0, by omega, by simp, by simp, .refl _ _⟩
    case round =>
      obtain ⟨k, hk, rfl, ht, hd⟩ := hrel
      have hsz := hd.size
      replace ha := ha.all hd
      replace hb := hb.all hd
      have HT := Lib.hid ht; clear ht
      by_cases hlt : k < n
      · have hka := ha.lt hlt
        have hkb := hb.lt hlt
        obtain ⟨ad, Ar, nr, cr, Ae, ce, At, ct, As, cs, rfl, a0, a1, a2, a3, a4, a5, a6, ra⟩ := ha.space k hka
        obtain ⟨ae, Br, mr, dr, Be, de, Bt, dt, Bs, ds, rfl, b0, b1, b2, b3, b4, b5, b6, rb⟩ := hb.space k hkb
        have HA := Lib.hid fun (W : World) (hw : Below wr.heap.size wr W) => And.intro ((hw.cell (Bc.of_cell a0).lt).trans a0) (And.intro ((hw.cell (Bc.of_cell a1).lt).trans a1) (And.intro ((hw.cell (Bc.of_cell a2).lt).trans a2) (And.intro ((hw.cell (Bc.of_cell a3).lt).trans a3) (And.intro ((hw.cell (Bc.of_cell a4).lt).trans a4) (And.intro ((hw.cell (Bc.of_cell a5).lt).trans a5) ((hw.cell (Bc.of_cell a6).lt).trans a6))))))
        have HB := Lib.hid fun (W : World) (hw : Below wr.heap.size wr W) => And.intro ((hw.cell (Bc.of_cell b0).lt).trans b0) (And.intro ((hw.cell (Bc.of_cell b1).lt).trans b1) (And.intro ((hw.cell (Bc.of_cell b2).lt).trans b2) (And.intro ((hw.cell (Bc.of_cell b3).lt).trans b3) (And.intro ((hw.cell (Bc.of_cell b4).lt).trans b4) (And.intro ((hw.cell (Bc.of_cell b5).lt).trans b5) ((hw.cell (Bc.of_cell b6).lt).trans b6))))))
        have HC := Lib.hid fun (W : World) (hw : Below wr.heap.size wr W) => same_space (Enc.space.keep ra (.all hw _)) (Enc.space.keep rb (.all hw _))
        have HLA := Lib.hid ha; have HLB := Lib.hid hb
        clear ra rb a0 a1 a2 a3 a4 a5 a6 b0 b1 b2 b3 b4 b5 b6 ha hb
        obtain ⟨x, hx⟩ : ∃ x, a[k] = x := ⟨_, rfl⟩
        obtain ⟨y, hy⟩ : ∃ y, b[k] = y := ⟨_, rfl⟩
        rw [hx] at HA HC; rw [hy] at HB HC
        have HX := Lib.hid hx; have HY := Lib.hid hy
        clear hx hy
        cases hq : decide (x = y) with
        | true =>
          rw [hq] at HC
          have hxy := of_decide_eq_true hq
          have HE : Hid (a[k] = b[k]) := Lib.hid (by rw [HX.out, HY.out, hxy])
          clear hq hxy
          go_wp2
          (refine wp_region_quietC (fun W => Below (World.heap wr).size wr W) (by kernel_rfl) (by kernel_rfl) (below_of_drewN wr 1) ?_; (repeat (refine wpQuiet_step (fun KQ hKQ => ?_); go_simp; first | (refine hKQ _ ?_; clear hKQ KQ) | (refine ⟨_, fun _ _ => rfl, hKQ _ ?_⟩; clear hKQ KQ) | (apply Exists.intro; refine ⟨?_, hKQ _ ?_⟩; (intro W hW; first | (go_at_call 50; exact (HC.out W hW).mono fun e w' h => ⟨h.1, below_then hW hW.size h.2⟩) | (obtain ⟨h0, h1, h2, h3, h4, h5, h6⟩ := HA.out W hW; simp only [h0, h1, h2, h3, h4, h5, h6, Result.andThen_ok]; exact ⟨trivial, rfl⟩) | (obtain ⟨h0, h1, h2, h3, h4, h5, h6⟩ := HB.out W hW; simp only [h0, h1, h2, h3, h4, h5, h6, Result.andThen_ok]; exact ⟨trivial, rfl⟩)); clear hKQ KQ))); refine wpQuiet_nil ?_)
          intro w7 hb7
          go_wp2
          go_roundw
          case rel => exact ⟨k + 1, by omega, by go_num, take_succ_eq hka hkb HT.out HE.out, below_then hd hsz hb7⟩
          case measure => simp [intOf]; omega
        | false =>
          rw [hq] at HC
          have hxy := of_decide_eq_false hq
          have HNE : Hid (a ≠ b) := Lib.hid (ne_at hka hkb (by rw [HX.out, HY.out]; exact hxy))
          clear hq hxy
          go_wp2
          (refine wp_region_quietC (fun W => Below (World.heap wr).size wr W) (by kernel_rfl) (by kernel_rfl) (below_of_drewN wr 1) ?_; (repeat (refine wpQuiet_step (fun KQ hKQ => ?_); go_simp; first | (refine hKQ _ ?_; clear hKQ KQ) | (refine ⟨_, fun _ _ => rfl, hKQ _ ?_⟩; clear hKQ KQ) | (apply Exists.intro; refine ⟨?_, hKQ _ ?_⟩; (intro W hW; first | (go_at_call 50; exact (HC.out W hW).mono fun e w' h => ⟨h.1, below_then hW hW.size h.2⟩) | (obtain ⟨h0, h1, h2, h3, h4, h5, h6⟩ := HA.out W hW; simp only [h0, h1, h2, h3, h4, h5, h6, Result.andThen_ok]; exact ⟨trivial, rfl⟩) | (obtain ⟨h0, h1, h2, h3, h4, h5, h6⟩ := HB.out W hW; simp only [h0, h1, h2, h3, h4, h5, h6, Result.andThen_ok]; exact ⟨trivial, rfl⟩)); clear hKQ KQ))); refine wpQuiet_nil ?_)
          intro w7 hb7
          go_wp2
          go_ret
          exact ⟨ret_bool (by simp [HNE.out]), below_then hd hsz hb7⟩
      · have hlt' : k = n := by omega
        have HE : Hid (a = b) := Lib.hid (take_all_eq HL.out (by rw [ha.len]; exact hlt) HT.out)
        go_wp2
        go_ret
        exact ⟨ret_bool (by simp [HE.out]), hd⟩
  · have hlb : ((n : Int) != (m : Int)) = true := by simp; omega
    have hne : a ≠ b := fun h => hl (by rw [← ha.len, ← hb.len, h])
    have HN := Lib.hid hne; clear hne
    go_enter Try.func48, Try.ntmps48
    go_wp2
    go_ret
    exact ⟨ret_bool (by simp [HN.out]), .refl _ _⟩
end
end Go.Proofs.Ytdgcfgiedclmcaa
