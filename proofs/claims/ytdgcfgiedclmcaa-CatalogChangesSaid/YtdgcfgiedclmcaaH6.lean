/- Contracts: slices.IndexFunc over spaces; catalog.Find. -/
import Derived.Test.YtdgcfgiedclmcaaH5
import Derived.BigGuardPart
namespace Go.Proofs.Ytdgcfgiedclmcaa
open Go.RowKit

/-- A function value that tells of a space whether it fits, in every world in which what lay in w lies as it lay. -/
def PredS (w : World) (F : Nat → Prop) (g : FuncId) (lb : Array Value) (p : Space → Bool) : Prop :=
  (∀ args w, (callFunc g args).run Try.prog w = .ok (.enter g args) w) ∧ ∀ (W : World) (x : Space) (vs : List Value), Below w.heap.size w W → Enc.space.rel W F vs x →
    Calls Try.prog g (#[.agg vs.toArray] ++ lb) W fun e w' => e = .returned (.bool (p x)) ∧ Below W.heap.size W w'

section
variable {w : World} {F G : Nat → Prop} {A B : Option Addr} {n c m d : Nat}
set_option maxHeartbeats 1000000 in
theorem index_spaces {ws : List Space} {g : FuncId} {lb : Array Value} {p : Space → Bool} (h : Sl Enc.space w F A n c ws) (hp : PredS w F g lb p) :
    Calls Try.prog 84 #[.slice A n c, .func (.func g) #[] lb] w fun e w' => e = .returned (.int .i64 (fidx p ws)) ∧ Below w.heap.size w w' := by
  have hn := h.max
  have hln := h.len
  obtain ⟨eg, hp⟩ := hp
  have HP := Lib.hid hp; clear hp
  generalize hr : fidx p ws = r
  have HR := Lib.hid hr; clear hr
  go_enter Try.func84, Try.ntmps84
  go_wp2
  go_loopw [8] (fun i wr => ∃ k : Nat, k ≤ n ∧ i = .int .i64 k ∧ (∀ x ∈ ws.take k, p x = false) ∧ Below w.heap.size w wr) (fun i _ => n - (intOf i).toNat)
  case atStart => exact ⟨0, by omega, by simp, by simp, .refl _ _⟩
  case round =>
    obtain ⟨k, hk, rfl, ht, hd⟩ := hrel
    have hsz := hd.size
    replace h := h.all hd
    have HT := Lib.hid ht; clear ht
    by_cases hlt : k < n
    · have hka := h.lt hlt
      obtain ⟨ad, Ar, nr, cr, Ae, ce, At, ct, As, cs, rfl, a0, a1, a2, a3, a4, a5, a6, ra⟩ := h.space k hka
      have HC := Lib.hid (HP.out wr _ _ hd ra)
      have HA := Lib.hid h; clear h ra
      cases hx : p ws[k] with
      | true =>
        rw [hx] at HC
        have HX := Lib.hid hx; clear hx
        go_wp2_with fail
        refine HC.out.mono ?_
        rintro e w1 ⟨rfl, hd1⟩
        go_wp2
        go_ret
        exact ⟨ret_int (by rw [← HR.out, fidx_some hka HT.out HX.out]), below_then hd hsz hd1⟩
      | false =>
        rw [hx] at HC
        have HX := Lib.hid hx; clear hx
        go_wp2_with fail
        refine HC.out.mono ?_
        rintro e w1 ⟨rfl, hd1⟩
        go_wp2
        go_roundw
        case rel => exact ⟨k + 1, by omega, by go_num, none_take_succ hka HT.out HX.out, below_then hd hsz hd1⟩
        case measure => simp [intOf]; omega
    · go_wp2
      go_ret
      exact ⟨ret_int (by rw [← HR.out, fidx_none (by omega) HT.out]), hd⟩

theorem find_pred (F : Nat → Prop) {b : Nat} {i : Int} (hc : w.cell? ⟨b, 0, none⟩ = some (.int .i64 i)) : PredS w F 85 #[.pointer (some ⟨b, 0, none⟩)] (fun x => x.id == i) := by
  refine ⟨enters_of Try.func85 (by kernel_rfl) rfl, fun W x vs hb hr => ?_⟩
  obtain ⟨Ar, nr, cr, Ae, ce, At, ct, As, cs, rfl, -⟩ := hr
  have hc' := bc hb hc
  have hbl : b < W.heap.size := World.block_lt_of_cell? W _ hc'
  clear hc hb
  obtain ⟨x0, x1, x2, x3, x4, x5, x6⟩ := x
  dsimp only
  go_enter Try.func85, Try.ntmps85
  go_wp2
  go_ret
  exact ⟨rfl, (Below.refl _ _).alloc (Nat.le_refl _) _⟩

/-- where a space is: its place, whether it is there -/
def findI (l : List Space) (i : Int) : Int := fidx (fun x => x.id == i) l
theorem fidx_bd {α : Type} (p : α → Bool) (l : List α) : -1 ≤ fidx p l ∧ fidx p l < l.length := by
  unfold fidx
  cases h : l.findIdx? p with
  | none => simp; omega
  | some k =>
    obtain ⟨hk, _⟩ := List.findIdx?_eq_some_iff_getElem.1 h
    simp; omega
set_option maxHeartbeats 400000 in
theorem cat_find {l : List Space} {i : Int} (h : Sl Enc.space w F A n c l) :
    Calls Try.prog 44 #[.slice A n c, .int .i64 i] w fun e w' => e = .returned (.tuple #[.int .i64 (max (findI l i) 0), .bool (decide (0 ≤ findI l i))]) ∧ Below w.heap.size w w' := by
  have hbx : (w.alloc (.cells #[.int .i64 i] 3)).cell? ⟨w.heap.size, 0, none⟩ = some (.int .i64 i) := by simp
  have HC := Lib.hid (index_spaces (h.keep (.alloc w (.cells #[.int .i64 i] 3) F)) (find_pred F hbx))
  have hbd := fidx_bd (fun x : Space => x.id == i) l
  unfold findI
  have hln := h.max
  have hll := h.len
  clear h hbx
  generalize fidx (fun x : Space => x.id == i) l = r at *
  have HMX : Hid (r < 0 → max r 0 = 0) := Lib.hid (fun h => by omega)
  have HMY : Hid (0 ≤ r → max r 0 = r) := Lib.hid (fun h => by omega)
  go_enter Try.func44, Try.ntmps44
  go_wp2_with fail
  refine HC.out.mono ?_
  rintro e w1 ⟨rfl, hd1⟩
  go_wp2
  all_goals
    go_ret2
    exact ⟨by first | (rw [HMX.out (by assumption)]; rfl) | (rw [HMY.out (by assumption)]; rfl), ((Below.refl _ _).alloc (Nat.le_refl _) _).trans (hd1.mono (by simp))⟩
end
end Go.Proofs.Ytdgcfgiedclmcaa
