/- Contracts: slices.IndexFunc and ContainsFunc over images; what Outcomes asks of them; crash.all. -/
import Derived.Test.YtdgcfgiedclmcaaC4
namespace Go.Proofs.Ytdgcfgiedclmcaa
open Go.RowKit

/-- A function value that tells of an image whether it fits. -/
def PredR (w : World) (F : Nat → Prop) (g : FuncId) (lb : Array Value) (p : List (List Int) → Bool) : Prop :=
  (∀ args w, (callFunc g args).run Try.prog w = .ok (.enter g args) w) ∧ ∀ (W : World) (Y : List (List Int)) (A : Option Addr) (n c : Nat), Below w.heap.size w W → Sl Enc.bytes W F A n c Y →
    Calls Try.prog g (#[.slice A n c] ++ lb) W fun e w' => e = .returned (.bool (p Y)) ∧ Below W.heap.size W w'

section
variable {w : World} {F G H : Nat → Prop} {A B : Option Addr} {n c m d : Nat}
set_option maxHeartbeats 400000 in
theorem index_images {xs : List (List (List Int))} {g : FuncId} {lb : Array Value} {p : List (List Int) → Bool} (h : Sl (Enc.slice Enc.bytes) w F A n c xs) (hp : PredR w F g lb p) :
    Calls Try.prog 105 #[.slice A n c, .func (.func g) #[] lb] w fun e w' => e = .returned (.int .i64 (fidx p xs)) ∧ Below w.heap.size w w' := by
  have hn := h.max
  have hln := h.len
  obtain ⟨eg, hp⟩ := hp
  have HP := Lib.hid hp; clear hp
  generalize hr : fidx p xs = r
  have HR := Lib.hid hr; clear hr
  go_enter Try.func105, Try.ntmps105
  go_wp2
  go_loopw [8] (fun i wr => ∃ k : Nat, k ≤ n ∧ i = .int .i64 k ∧ (∀ x ∈ xs.take k, p x = false) ∧ Below w.heap.size w wr) (fun i _ => n - (intOf i).toNat)
  case atStart => exact ⟨0, by omega, by simp, by simp, .refl _ _⟩
  case round =>
    obtain ⟨k, hk, rfl, ht, hd⟩ := hrel
    have hsz := hd.size
    replace h := h.all hd
    have HT := Lib.hid ht; clear ht
    by_cases hlt : k < n
    · have hka := h.lt hlt
      obtain ⟨ad, B, m, d, rfl, -, hc1, hs⟩ := h.slice k hka
      have HA := Lib.hid h; clear h
      have HC := Lib.hid (HP.out wr xs[k] B m d hd hs)
      clear hs
      cases hx : p xs[k] with
      | true =>
        rw [hx] at HC
        have HX := Lib.hid hx; clear hx
        go_wp2_with fail
        refine HC.out.mono ?_
        rintro e w1 ⟨rfl, hd1⟩
        go_wp2
        go_ret
        exact ⟨ret_int (by rw [← HR.out, fidx_some hka HT.out HX.out]), below_then hd hsz hd1⟩
      | false =>
        rw [hx] at HC
        have HX := Lib.hid hx; clear hx
        go_wp2_with fail
        refine HC.out.mono ?_
        rintro e w1 ⟨rfl, hd1⟩
        go_wp2
        go_roundw
        case rel => exact ⟨k + 1, by omega, by go_num, none_take_succ hka HT.out HX.out, below_then hd hsz hd1⟩
        case measure => simp [intOf]; omega
    · go_wp2
      go_ret
      exact ⟨ret_int (by rw [← HR.out, fidx_none (by omega) HT.out]), hd⟩

set_option maxHeartbeats 400000 in
theorem contains_images {xs : List (List (List Int))} {g : FuncId} {lb : Array Value} {p : List (List Int) → Bool} (h : Sl (Enc.slice Enc.bytes) w F A n c xs) (hp : PredR w F g lb p) :
    Calls Try.prog 60 #[.slice A n c, .func (.func g) #[] lb] w fun e w' => e = .returned (.bool (xs.any p)) ∧ Below w.heap.size w w' := by
  have HC := Lib.hid (index_images h hp); clear h hp
  have HI := Lib.hid (fidx_nonneg p xs)
  generalize fidx p xs = r at HC HI
  generalize xs.any p = q at HI ⊢
  go_enter Try.func60, Try.ntmps60
  go_wp2_with fail
  refine HC.out.mono ?_
  rintro e w1 ⟨rfl, hd1⟩
  go_wp2
  go_ret
  exact ⟨ret_bool HI.out, hd1⟩

set_option maxHeartbeats 400000 in
theorem outcomes_pred (F : Nat → Prop) {b : Nat} {X : List (List Int)} (hc : w.cell? ⟨b, 0, none⟩ = some (.slice A n c)) (h : Sl Enc.bytes w G A n c X) :
    PredR w F 61 #[.pointer (some ⟨b, 0, none⟩)] (fun Y => decide (X = Y)) := by
  refine ⟨enters_of Try.func61 (by kernel_rfl) rfl, fun W Y B m d hb hs => ?_⟩
  have hc' := (hb.cell (p := ⟨b, 0, none⟩) (World.block_lt_of_cell? w _ hc)).trans hc
  have HC := Lib.hid (crash_same (h.all hb) hs)
  clear hc hb h hs
  show Calls Try.prog 61 #[.slice B m d, .pointer (some ⟨b, 0, none⟩)] W fun e w' => e = .returned (.bool (decide (X = Y))) ∧ Below W.heap.size W w'
  generalize decide (X = Y) = r at HC ⊢
  go_enter Try.func61, Try.ntmps61
  go_wp2_with fail
  refine HC.out.mono ?_
  rintro e w1 ⟨rfl, hd1⟩
  go_wp2
  go_ret
  exact ⟨rfl, hd1.below⟩

set_option maxHeartbeats 400000 in
theorem all_any (w : World) : Calls Try.prog 59 #[.slice A n c, .slice B m d] w fun e w' =>
    e = .returned (.func (.func 103) #[] #[.pointer (some ⟨w.heap.size + 1, 0, none⟩), .pointer (some ⟨w.heap.size, 0, none⟩)]) ∧
      w' = (w.alloc (.cells #[.slice A n c] 22)).alloc (.cells #[.slice B m d] 23) := by
  go_enter Try.func59, Try.ntmps59
  go_wp2
  go_ret
  exact ⟨rfl, rfl⟩
end
end Go.Proofs.Ytdgcfgiedclmcaa
