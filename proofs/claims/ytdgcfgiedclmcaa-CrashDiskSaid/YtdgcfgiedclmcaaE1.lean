/- Plain laws on images and writes; writing into rows that a call made. -/
import Derived.Test.YtdgcfgiedclmcaaC9
import Derived.Test.YtdgcfgiedclmcaaC8
import Derived.Test.YtdgcfgiedclmcaaT
namespace Go.Proofs.Ytdgcfgiedclmcaa
open Go.RowKit

theorem doneTo_at (p : Nat → Bool) (ws : List Entry) (im : List (List Int)) (hin : ∀ x ∈ ws, 0 ≤ x.1) (i : Nat) (hi : i < im.length) (k : Nat) (hk : k ≤ ws.length) :
    okTo im ws ((doneTo p ws im k).getD i []) i k = true := by
  induction k with
  | zero => simp [doneTo, okTo]
  | succ k ih =>
    have ih := ih (by omega)
    have hl := doneTo_length p ws im k
    rw [doneTo_succ]
    cases hp : p k with
    | false => rw [wstep_no hp, okTo_succ (by omega), ih]; rfl
    | true =>
      rw [wstep_yes hp (by omega), okTo_succ (by omega)]
      by_cases e : ws[k].1.toNat = i
      · have h0 := hin _ (List.getElem_mem (show k < ws.length by omega))
        have h1 : ((doneTo p ws im k).set ws[k].1.toNat ws[k].2).getD i [] = ws[k].2 := by simp [List.getD, e, hl, hi]
        rw [h1]
        have : fitsW ws[k].2 i ws[k] = true := by simp [fitsW]; omega
        simp [this]
      · have h1 : ((doneTo p ws im k).set ws[k].1.toNat ws[k].2).getD i [] = (doneTo p ws im k).getD i [] := by simp [List.getD, List.getElem?_set_ne e]
        rw [h1, ih]; rfl
/-- what crash.May says of what was done, and of what was -/
theorem mayB_done {im : List (List Int)} {ws : List Entry} (p : Nat → Bool) (h0 : mayE im.length ws = 0) (hin : ∀ x ∈ ws, 0 ≤ x.1) : mayB im ws (doneTo p ws im ws.length) = true := by
  simp only [mayB, h0, doneTo_length, decide_true, Bool.true_and, List.all_eq_true, List.mem_range]
  intro i hi
  exact doneTo_at p ws im hin i hi _ (Nat.le_refl _)
theorem mayB_self {im : List (List Int)} {ws : List Entry} (h0 : mayE im.length ws = 0) : mayB im ws im = true := by
  simp only [mayB, h0, decide_true, Bool.true_and, List.all_eq_true, List.mem_range]
  intro i hi
  simp [okAt, okTo]
theorem mayB_not {im left : List (List Int)} {ws : List Entry} (h0 : mayE im.length ws ≠ 0) : mayB im ws left = false := by simp [mayB, h0]
theorem mayE_in {n : Nat} {ws : List Entry} (hn : n ≤ 12) (hw : ws.length ≤ 14) : mayE n ws = if ws.all (inSectors n) then 0 else 41 := by
  unfold mayE
  split
  · rw [if_neg (by omega), if_neg (by omega)]
  · rfl
theorem in_of_all {n : Nat} {ws : List Entry} (h : ws.all (inSectors n) = true) : ∀ x ∈ ws, 0 ≤ x.1 ∧ x.1 < n := by
  intro x hx
  have := List.all_eq_true.1 h x hx
  simpa [inSectors] using this
theorem rows_of_all {im : List (List Int)} (h : im.all shortRow = true) : ∀ x ∈ im, x.length ≤ 4096 := by
  intro x hx
  have := List.all_eq_true.1 h x hx
  simp [shortRow] at this; omega
theorem entries_of_all {ws : List Entry} (h : ws.all shortEntry = true) : ∀ x ∈ ws, x.2.length ≤ 4096 := by
  intro x hx
  have := List.all_eq_true.1 h x hx
  simp [shortEntry] at this; omega

theorem list_choose {α : Type} {n : Nat} {P : Nat → α → Prop} (h : ∀ i, i < n → ∃ y, P i y) : ∃ ys : List α, ys.length = n ∧ ∀ (i : Nat) (y : α), ys[i]? = some y → P i y := by
  induction n with
  | zero => exact ⟨[], rfl, fun i y hy => by simp at hy⟩
  | succ n ih =>
    obtain ⟨ys, hl, hys⟩ := ih fun i hi => h i (by omega)
    obtain ⟨y, hy⟩ := h n (by omega)
    refine ⟨ys ++ [y], by simp [hl], fun i z hz => ?_⟩
    rcases Nat.lt_or_ge i n with hi | hi
    · rw [List.getElem?_append_left (by omega)] at hz; exact hys i z hz
    · have hin : i = n := by
        have := (List.getElem?_eq_some_iff.1 hz).1
        simp at this; omega
      subst hin
      rw [List.getElem?_append_right (by omega), hl, Nat.sub_self] at hz
      simp at hz
      subst hz
      exact hy

section
variable {w : World} {F : Nat → Prop} {v : Value} {E E' : TypeId} {base g i : Nat} {y : Int}
theorem Own.poke {xs : List Int} (h : Own Enc.u8 E w base (fun _ => False) v xs) (hy : (Lit.int .u8 y).wf = true) : ∃ xs', Own Enc.u8 E (w.setCell ⟨g, i, none⟩ (.int .u8 y)) base (fun _ => False) v xs' := by
  by_cases hg : v.ownBlock = some g
  · obtain ⟨A, c, rfl, h1, _, h2⟩ := h.form
    have hA : A = some ⟨g, 0, none⟩ := by
      obtain ⟨cells, ho, _⟩ := h
      rcases ho.2 with ⟨e, _⟩ | ⟨g', cap, cur, e, _⟩
      · injection e with e1; subst e1; cases hg
      · injection e with e1; subst e1
        have : g' = g := by simpa [Value.ownBlock] using hg
        rw [this]
    subst hA
    by_cases hi : i < xs.length
    · exact ⟨_, h.store1 rfl i hi (u := .int .u8 y) (y := y) ⟨rfl, hy⟩⟩
    · obtain ⟨cells, ho, hr, hn, hl⟩ := h
      have hlen := ho.1
      have h1 : cells.set i (.int .u8 y) = cells := List.set_eq_of_length_le (by rw [hlen]; show xs.length * 1 ≤ i; omega)
      have h3 := (ho.stored i (.int .u8 y)).1
      rw [h1] at h3
      exact ⟨xs, cells, h3, hr, hn, fun _ h => h.elim⟩
  · exact ⟨xs, h.setCell (p := ⟨g, i, none⟩) (fun h => h) hg _⟩
theorem Own.pokeRows {X : List (List Int)} (h : Own (Enc.obytes E) E' w base F v X) (hF : F g) (hy : (Lit.int .u8 y).wf = true) : ∃ X', Own (Enc.obytes E) E' (w.setCell ⟨g, i, none⟩ (.int .u8 y)) base F v X' := by
  have hvg : v.ownBlock ≠ some g := fun e => h.not g e hF
  obtain ⟨cells, ho, hr, hn, hl⟩ := h
  obtain ⟨X', hX, hX'⟩ := list_choose (n := X.length) (P := fun j x' => (Enc.obytes E).rel (w.setCell ⟨g, i, none⟩ (.int .u8 y)) F ((cells.drop (j * (Enc.obytes E).size)).take (Enc.obytes E).size) x') (fun j hj => by
    obtain ⟨u, hu, hou, hFu⟩ := hr j _ (List.getElem?_eq_getElem hj)
    obtain ⟨xs', hx'⟩ := hou.poke (g := g) (i := i) hy
    exact ⟨xs', u, hu, hx', hFu⟩)
  refine ⟨X', cells, ?_, hX', hn, fun b hb => by simpa [World.setCell] using hl b hb⟩
  rw [hX]
  refine ⟨ho.1, ?_⟩
  rcases ho.2 with h0 | ⟨g', cap, cur, rfl, h1, h2, h3⟩
  · exact .inl h0
  · exact .inr ⟨g', cap, cur, rfl, h1, (Below.heap_setCell _ _ _ _ (fun e => hvg (by have e' : g' = g := e; rw [← e']; rfl))).trans h2, h3⟩
end
end Go.Proofs.Ytdgcfgiedclmcaa
