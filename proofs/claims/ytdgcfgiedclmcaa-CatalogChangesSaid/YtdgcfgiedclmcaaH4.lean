/- Contracts of law27: few, listed; catalog.may. -/
import Derived.Test.YtdgcfgiedclmcaaH3
import Derived.Test.YtdgcfgiedclmcaaC2
namespace Go.Proofs.Ytdgcfgiedclmcaa
open Go.RowKit

section
variable {w : World} {F G : Nat → Prop} {A B : Option Addr} {n c m d : Nat}
set_option maxHeartbeats 1000000 in
theorem few_spaces {a : List Space} (h : Sl Enc.space w F A n c a) :
    Calls Try.prog 43 #[.slice A n c] w fun e w' => e = .returned (.bool (a.all fewSpace && decide (a.length ≤ 40))) ∧ Below w.heap.size w w' := by
  have hn := h.max
  have hln := h.len
  generalize hr : (a.all fewSpace && decide (a.length ≤ 40)) = r
  have HR := Lib.hid hr; clear hr
  have HLN := Lib.hid hln; clear hln
  go_enter Try.func43, Try.ntmps43
  go_wp2
  go_loopw [7] (fun i wr => ∃ k : Nat, k ≤ n ∧ i = .int .i64 k ∧ (a.take k).all fewSpace = true ∧ Below w.heap.size w wr) (fun i _ => n - (intOf i).toNat)
  case atStart => exact ⟨0, by omega, by simp, by simp, .refl _ _⟩
  case round =>
    obtain ⟨k, hk, rfl, ht, hd⟩ := hrel
    have hsz := hd.size
    replace h := h.all hd
    have HT := Lib.hid ht; clear ht
    by_cases hlt : k < n
    · have hka := h.lt hlt
      obtain ⟨ad, Ar, nr, cr, Ae, ce, At, ct, As, cs, rfl, a0, a1, a2, a3, a4, a5, a6, ⟨Ar', nr', cr', _, _, _, _, _, _, e, -, -, -, hs, -⟩⟩ := h.space k hka
      have hlr := hs.len
      have hmr := hs.max
      simp only [List.cons.injEq, Value.slice.injEq, and_true, true_and] at e
      obtain ⟨⟨-, rfl, -⟩, -⟩ := e
      have HA := Lib.hid h; clear h hs
      by_cases hx : nr ≤ 100
      · have HX : Hid (fewSpace a[k] = true) := Lib.hid (by simp [fewSpace]; omega)
        clear hlr
        go_wp2
        go_roundw
        case rel => exact ⟨k + 1, by omega, by go_num, all_take_succ hka HT.out HX.out, hd.alloc hsz _⟩
        case measure => simp [intOf]; omega
      · have HX : Hid (a.all fewSpace = false) := Lib.hid (all_false hka (by simp [fewSpace]; omega))
        clear hlr
        go_wp2
        go_ret
        exact ⟨ret_bool (by rw [← HR.out, HX.out]; rfl), hd.alloc hsz _⟩
    · have HX : Hid (a.all fewSpace = true) := Lib.hid (all_done (by have := HLN.out; omega) HT.out)
      go_wp2
      go_ret
      exact ⟨ret_bool (by rw [← HR.out, HX.out, HLN.out]; simp; omega), hd⟩
theorem cat_may (w : World) (id : Int) : Calls Try.prog 86 #[.int .i64 id] w fun e w' => e = .returned (.bool (decide (1 ≤ id) && decide (id ≤ 64))) ∧ Dr w w' := by
  by_cases h : 1 ≤ id
  · go_enter Try.func86, Try.ntmps86
    go_wp2
    go_ret
    exact ⟨ret_bool (by simp [h]), .refl _⟩
  · go_enter Try.func86, Try.ntmps86
    go_wp2
    go_ret
    exact ⟨ret_bool (by simp; omega), .refl _⟩
end
end Go.Proofs.Ytdgcfgiedclmcaa
