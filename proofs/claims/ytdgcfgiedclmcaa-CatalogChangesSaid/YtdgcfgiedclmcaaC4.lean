/- Contracts: slices.EqualFunc over bytes.Equal; crash.Same; slices.IndexFunc and ContainsFunc over entries; crash.may. -/
import Derived.Test.YtdgcfgiedclmcaaC3
namespace Go.Proofs.Ytdgcfgiedclmcaa
open Go.RowKit

section
variable {w : World} {F G : Nat → Prop} {A B : Option Addr} {n c m d : Nat}
set_option maxHeartbeats 400000 in
theorem equal_func {a b : List (List Int)} (ha : Sl Enc.bytes w F A n c a) (hb : Sl Enc.bytes w G B m d b) :
    Calls Try.prog 65 #[.slice A n c, .slice B m d, .func (.func 62) #[] #[]] w fun e w' => e = .returned (.bool (decide (a = b))) ∧ Dr w w' := by
  have hn := ha.max
  by_cases hl : n = m
  · subst hl
    have HL := Lib.hid (ha.len.trans hb.len.symm)
    have hlb : ((n : Int) != (n : Int)) = false := by simp
    go_enter Try.func65, Try.ntmps65
    go_wp2
    go_loopw [17] (fun i wr => ∃ k : Nat, k ≤ n ∧ i = .int .i64 k ∧ a.take k = b.take k ∧ Dr w wr) (fun i _ => n - (intOf i).toNat)
    case atStart => exact ⟨0, by omega, by simp, by simp, .refl _⟩
    case round =>
      obtain ⟨k, hk, rfl, ht, hd⟩ := hrel
      replace ha := ha.all hd.below
      replace hb := hb.all hd.below
      have HT := Lib.hid ht; clear ht
      by_cases hlt : k < n
      · have hka := ha.lt hlt
        have hkb := hb.lt hlt
        obtain ⟨ad, A1, n1, c1, rfl, -, hca, hsa⟩ := ha.slice k hka
        obtain ⟨bd, B1, m1, d1, rfl, -, hcb, hsb⟩ := hb.slice k hkb
        have HA := Lib.hid ha; have HB := Lib.hid hb; clear ha hb
        have HC := Lib.hid (bytes_equal hsa hsb)
        clear hsa hsb
        by_cases hx : a[k] = b[k]
        · have HX := Lib.hid hx
          simp only [hx, decide_true] at HC
          clear hx
          go_wp2_with fail
          refine HC.out.mono ?_
          rintro e w1 ⟨rfl, hd1⟩
          go_wp2
          go_roundw
          case rel => exact ⟨k + 1, by omega, by go_num, take_succ_eq hka hkb HT.out HX.out, hd.trans hd1⟩
          case measure => simp [intOf]; omega
        · have HX := Lib.hid hx
          simp only [hx, decide_false] at HC
          clear hx
          go_wp2_with fail
          refine HC.out.mono ?_
          rintro e w1 ⟨rfl, hd1⟩
          go_wp2
          go_ret
          exact ⟨ret_bool (by simp [ne_at hka hkb HX.out]), hd.trans hd1⟩
      · go_wp2
        go_ret
        exact ⟨ret_bool (by simp [take_all_eq HL.out (by rw [ha.len]; exact hlt) HT.out]), hd⟩
  · have hlb : ((n : Int) != (m : Int)) = true := by simp; omega
    have hne : a ≠ b := fun h => hl (by rw [← ha.len, ← hb.len, h])
    have HN := Lib.hid hne; clear hne
    go_enter Try.func65, Try.ntmps65
    go_wp2
    go_ret
    exact ⟨ret_bool (by simp [HN.out]), .refl _⟩

set_option maxHeartbeats 400000 in
theorem crash_same {a b : List (List Int)} (ha : Sl Enc.bytes w F A n c a) (hb : Sl Enc.bytes w G B m d b) :
    Calls Try.prog 20 #[.slice A n c, .slice B m d] w fun e w' => e = .returned (.bool (decide (a = b))) ∧ Dr w w' := by
  have HC := Lib.hid (equal_func ha hb); clear ha hb
  generalize decide (a = b) = r at HC ⊢
  go_enter Try.func20, Try.ntmps20
  go_wp2_with fail
  refine HC.out.mono ?_
  rintro e w1 ⟨rfl, hd1⟩
  go_wp2
  go_ret
  exact ⟨rfl, hd1⟩

/-- A function value that tells of an entry whether it fits, in every world in which what lay in w lies as it lay. -/
def PredE (w : World) (F : Nat → Prop) (g : FuncId) (lb : Array Value) (p : Entry → Bool) : Prop :=
  (∀ args w, (callFunc g args).run Try.prog w = .ok (.enter g args) w) ∧ ∀ (W : World) (x : Entry) (B : Option Addr) (m d : Nat), Below w.heap.size w W → Sl Enc.u8 W F B m d x.2 →
    Calls Try.prog g (#[.agg #[.int .i64 x.1, .slice B m d]] ++ lb) W fun e w' => e = .returned (.bool (p x)) ∧ Below W.heap.size W w'

set_option maxHeartbeats 400000 in
theorem index_entries {ws : List Entry} {g : FuncId} {lb : Array Value} {p : Entry → Bool} (h : Sl Enc.entry w F A n c ws) (hp : PredE w F g lb p) :
    Calls Try.prog 107 #[.slice A n c, .func (.func g) #[] lb] w fun e w' => e = .returned (.int .i64 (fidx p ws)) ∧ Below w.heap.size w w' := by
  have hn := h.max
  have hln := h.len
  obtain ⟨eg, hp⟩ := hp
  have HP := Lib.hid hp; clear hp
  generalize hr : fidx p ws = r
  have HR := Lib.hid hr; clear hr
  go_enter Try.func107, Try.ntmps107
  go_wp2
  go_loopw [8] (fun i wr => ∃ k : Nat, k ≤ n ∧ i = .int .i64 k ∧ (∀ x ∈ ws.take k, p x = false) ∧ Below w.heap.size w wr) (fun i _ => n - (intOf i).toNat)
  case atStart => exact ⟨0, by omega, by simp, by simp, .refl _ _⟩
  case round =>
    obtain ⟨k, hk, rfl, ht, hd⟩ := hrel
    have hsz := hd.size
    replace h := h.all hd
    have HT := Lib.hid ht; clear ht
    by_cases hlt : k < n
    · have hka := h.lt hlt
      obtain ⟨ad, B, m, d, rfl, -, hc1, hc2, hs⟩ := h.entry k hka
      have HA := Lib.hid h; clear h
      have HC := Lib.hid (HP.out wr ws[k] B m d hd hs)
      clear hs
      cases hx : p ws[k] with
      | true =>
        rw [hx] at HC
        have HX := Lib.hid hx; clear hx
        go_wp2_with fail
        refine HC.out.mono ?_
        rintro e w1 ⟨rfl, hd1⟩
        go_wp2
        go_ret
        exact ⟨ret_int (by rw [← HR.out, fidx_some hka HT.out HX.out]), below_then hd hsz hd1⟩
      | false =>
        rw [hx] at HC
        have HX := Lib.hid hx; clear hx
        go_wp2_with fail
        refine HC.out.mono ?_
        rintro e w1 ⟨rfl, hd1⟩
        go_wp2
        go_roundw
        case rel => exact ⟨k + 1, by omega, by go_num, none_take_succ hka HT.out HX.out, below_then hd hsz hd1⟩
        case measure => simp [intOf]; omega
    · go_wp2
      go_ret
      exact ⟨ret_int (by rw [← HR.out, fidx_none (by omega) HT.out]), hd⟩

set_option maxHeartbeats 400000 in
theorem contains_entries {ws : List Entry} {g : FuncId} {lb : Array Value} {p : Entry → Bool} (h : Sl Enc.entry w F A n c ws) (hp : PredE w F g lb p) :
    Calls Try.prog 66 #[.slice A n c, .func (.func g) #[] lb] w fun e w' => e = .returned (.bool (ws.any p)) ∧ Below w.heap.size w w' := by
  have HC := Lib.hid (index_entries h hp); clear h hp
  have HI := Lib.hid (fidx_nonneg p ws)
  generalize fidx p ws = r at HC HI
  generalize ws.any p = q at HI ⊢
  go_enter Try.func66, Try.ntmps66
  go_wp2_with fail
  refine HC.out.mono ?_
  rintro e w1 ⟨rfl, hd1⟩
  go_wp2
  go_ret
  exact ⟨ret_bool HI.out, hd1⟩
end
end Go.Proofs.Ytdgcfgiedclmcaa
