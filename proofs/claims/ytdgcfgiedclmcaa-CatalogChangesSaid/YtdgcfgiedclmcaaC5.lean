/- Contracts: crash.may. -/
import Derived.Test.YtdgcfgiedclmcaaC2
import Derived.Test.YtdgcfgiedclmcaaC4
namespace Go.Proofs.Ytdgcfgiedclmcaa
open Go.RowKit

def mayE (s : Int) (ws : List Entry) : Int := if ws.all (inSectors s) then (if 4096 < s then 3 else if 4096 < ws.length then 3 else 0) else 41
section
variable {w : World} {F G : Nat → Prop} {A B : Option Addr} {n c m d : Nat}
theorem may_pred (F : Nat → Prop) {b : Nat} {s : Int} (hc : w.cell? ⟨b, 0, none⟩ = some (.int .i64 s)) : PredE w F 102 #[.pointer (some ⟨b, 0, none⟩)] (fun x => !inSectors s x) := by
  refine ⟨enters_of Try.func102 (by kernel_rfl) rfl, fun W x B m d hb _ => ?_⟩
  have hc' := (hb.cell (p := ⟨b, 0, none⟩) (World.block_lt_of_cell? w _ hc)).trans hc
  have hbl : b < W.heap.size := World.block_lt_of_cell? W _ hc'
  clear hc hb
  obtain ⟨x1, x2⟩ := x
  have key : ∀ r, (!inSectors s (x1, x2)) = r → Calls Try.prog 102 #[.agg #[.int .i64 x1, .slice B m d], .pointer (some ⟨b, 0, none⟩)] W fun e w' => e = .returned (.bool r) ∧ Below W.heap.size W w' := by
    intro r hr
    have HR := Lib.hid hr; clear hr
    by_cases h1 : 0 ≤ x1
    · by_cases h2 : x1 < s
      · go_enter Try.func102, Try.ntmps102
        go_wp2
        go_ret
        exact ⟨ret_bool (by rw [← HR.out]; simp [inSectors, h1, h2]), (Below.refl _ _).alloc (Nat.le_refl _) _⟩
      · go_enter Try.func102, Try.ntmps102
        go_wp2
        go_ret
        exact ⟨ret_bool (by rw [← HR.out]; simp [inSectors, h1, h2]), (Below.refl _ _).alloc (Nat.le_refl _) _⟩
    · go_enter Try.func102, Try.ntmps102
      go_wp2
      go_ret
      exact ⟨ret_bool (by rw [← HR.out]; simp [inSectors, h1]), (Below.refl _ _).alloc (Nat.le_refl _) _⟩
  exact key _ rfl

set_option maxHeartbeats 400000 in
theorem may_any {s : Int} {ws : List Entry} (h : Sl Enc.entry w F A n c ws) :
    Calls Try.prog 58 #[.int .i64 s, .slice A n c] w fun e w' => e = .returned (.int .i64 (mayE s ws)) ∧ Below w.heap.size w w' := by
  have hbx : (w.alloc (.cells #[.int .i64 s] 3)).cell? ⟨w.heap.size, 0, none⟩ = some (.int .i64 s) := by simp
  have hln := h.len
  have HC := Lib.hid (contains_entries (h.keep (.alloc w (.cells #[.int .i64 s] 3) F)) (may_pred F hbx))
  clear h hbx
  rw [any_not_all] at HC
  cases ha : ws.all (inSectors s) with
  | false =>
    have HM : Hid (mayE s ws = 41) := Lib.hid (by simp [mayE, ha])
    rw [ha] at HC
    clear ha
    generalize mayE s ws = r at HM ⊢
    go_enter Try.func58, Try.ntmps58
    go_wp2_with fail
    refine HC.out.mono ?_
    rintro e w1 ⟨rfl, hd1⟩
    have hcell : w1.cell? ⟨w.heap.size, 0, none⟩ = some (.int .i64 s) := (hd1.cell (p := ⟨w.heap.size, 0, none⟩) (by simp)).trans (by simp)
    go_wp2
    go_ret
    exact ⟨ret_int (by rw [HM.out]), ((Below.refl _ _).alloc (Nat.le_refl _) _).trans (hd1.mono (by simp))⟩
  | true =>
    rw [ha] at HC
    by_cases h1 : 4096 < s
    · have HM : Hid (mayE s ws = 3) := Lib.hid (by simp [mayE, ha, h1])
      clear ha
      generalize mayE s ws = r at HM ⊢
      go_enter Try.func58, Try.ntmps58
      go_wp2_with fail
      refine HC.out.mono ?_
      rintro e w1 ⟨rfl, hd1⟩
      have hcell : w1.cell? ⟨w.heap.size, 0, none⟩ = some (.int .i64 s) := (hd1.cell (p := ⟨w.heap.size, 0, none⟩) (by simp)).trans (by simp)
      go_wp2
      go_ret
      exact ⟨ret_int (by rw [HM.out]), ((Below.refl _ _).alloc (Nat.le_refl _) _).trans (hd1.mono (by simp))⟩
    · by_cases h2 : 4096 < n
      · have HM : Hid (mayE s ws = 3) := Lib.hid (by simp [mayE, ha, h1, hln, h2])
        clear ha
        generalize mayE s ws = r at HM ⊢
        go_enter Try.func58, Try.ntmps58
        go_wp2_with fail
        refine HC.out.mono ?_
        rintro e w1 ⟨rfl, hd1⟩
        have hcell : w1.cell? ⟨w.heap.size, 0, none⟩ = some (.int .i64 s) := (hd1.cell (p := ⟨w.heap.size, 0, none⟩) (by simp)).trans (by simp)
        go_wp2
        go_ret
        exact ⟨ret_int (by rw [HM.out]), ((Below.refl _ _).alloc (Nat.le_refl _) _).trans (hd1.mono (by simp))⟩
      · have HM : Hid (mayE s ws = 0) := Lib.hid (by simp [mayE, ha, h1, hln, h2])
        clear ha
        generalize mayE s ws = r at HM ⊢
        go_enter Try.func58, Try.ntmps58
        go_wp2_with fail
        refine HC.out.mono ?_
        rintro e w1 ⟨rfl, hd1⟩
        have hcell : w1.cell? ⟨w.heap.size, 0, none⟩ = some (.int .i64 s) := (hd1.cell (p := ⟨w.heap.size, 0, none⟩) (by simp)).trans (by simp)
        go_wp2
        go_ret
        exact ⟨ret_int (by rw [HM.out]), ((Below.refl _ _).alloc (Nat.le_refl _) _).trans (hd1.mono (by simp))⟩
end
end Go.Proofs.Ytdgcfgiedclmcaa
