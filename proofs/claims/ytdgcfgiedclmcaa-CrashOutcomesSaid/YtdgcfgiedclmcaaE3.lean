/- Plain law: an image may be left just if it is one of those that the choices of writes leave. -/
import Derived.Test.YtdgcfgiedclmcaaD3
import Derived.Test.YtdgcfgiedclmcaaE1
namespace Go.Proofs.Ytdgcfgiedclmcaa

theorem bits_exist (p : Nat → Bool) (m : Nat) : ∃ k, k < 2 ^ m ∧ ∀ j, j < m → k.testBit j = p j := by
  induction m with
  | zero => exact ⟨0, by decide, fun j hj => by omega⟩
  | succ m ih =>
    obtain ⟨k, hk, hb⟩ := ih
    cases hp : p m with
    | false =>
      refine ⟨k, by rw [Nat.pow_succ]; omega, fun j hj => ?_⟩
      rcases Nat.lt_or_ge j m with h | h
      · exact hb j h
      · have : j = m := by omega
        subst this
        rw [hp]; exact Nat.testBit_lt_two_pow hk
    | true =>
      refine ⟨2 ^ m + k, by rw [Nat.pow_succ]; omega, fun j hj => ?_⟩
      rcases Nat.lt_or_ge j m with h | h
      · rw [Nat.testBit_two_pow_add_gt h]; exact hb j h
      · have : j = m := by omega
        subst this
        rw [Nat.testBit_two_pow_add_eq, Nat.testBit_lt_two_pow hk, hp]; rfl
theorem doneTo_congr {p q : Nat → Bool} {ws : List Entry} {im : List (List Int)} (k : Nat) (h : ∀ j, j < k → p j = q j) : doneTo p ws im k = doneTo q ws im k := by
  induction k with
  | zero => rfl
  | succ k ih =>
    rw [doneTo_succ, doneTo_succ, ih fun j hj => h j (by omega)]
    simp only [wstep, h k (by omega)]
/-- the choice that leaves an image: for each place the write that it has from -/
theorem doneTo_sel {ws : List Entry} {im left : List (List Int)} {sel : Nat → Option Nat} {p : Nat → Bool} (hl : left.length = im.length)
    (hs : ∀ i j, i < im.length → sel i = some j → j < ws.length ∧ (ws.getD j (0, [])).1 = i ∧ left.getD i [] = (ws.getD j (0, [])).2) (hn : ∀ i, i < im.length → sel i = none → left.getD i [] = im.getD i [])
    (hp : ∀ j, p j = true ↔ ∃ i, i < im.length ∧ sel i = some j) : doneTo p ws im ws.length = left := by
  have key : ∀ k, k ≤ ws.length → ∀ i, i < im.length → (doneTo p ws im k).getD i [] = if (∃ j, j < k ∧ sel i = some j) then left.getD i [] else im.getD i [] := by
    intro k
    induction k with
    | zero => intro _ i hi; rw [if_neg (by rintro ⟨j, hj, _⟩; omega)]; rfl
    | succ k ih =>
      intro hk i hi
      have ih := ih (by omega) i hi
      have hdl := doneTo_length p ws im k
      rw [doneTo_succ]
      cases hpk : p k with
      | false =>
        rw [wstep_no hpk, ih]
        have : (∃ j, j < k + 1 ∧ sel i = some j) ↔ (∃ j, j < k ∧ sel i = some j) := by
          constructor
          · rintro ⟨j, hj, hsj⟩
            refine ⟨j, ?_, hsj⟩
            rcases Nat.lt_or_ge j k with h | h
            · exact h
            · have : j = k := by omega
              subst this
              have := (hp j).2 ⟨i, hi, hsj⟩
              rw [hpk] at this; cases this
          · rintro ⟨j, hj, hsj⟩; exact ⟨j, by omega, hsj⟩
        simp only [this]
      | true =>
        obtain ⟨i', hi', hsi'⟩ := (hp k).1 hpk
        obtain ⟨_, hw1, hw2⟩ := hs i' k hi' hsi'
        have hkl : k < ws.length := by omega
        have e0 : ws.getD k (0, []) = ws[k] := by simp [List.getD, hkl]
        rw [e0] at hw1 hw2
        rw [wstep_yes hpk hkl]
        by_cases e : i' = i
        · subst e
          rw [if_pos ⟨k, by omega, hsi'⟩]
          have e1 : ws[k].1.toNat = i' := by omega
          simp [List.getD, e1, hdl, hi'] at hw2 ⊢
          exact hw2.symm
        · have e1 : ws[k].1.toNat ≠ i := by omega
          have e2 : ((doneTo p ws im k).set ws[k].1.toNat ws[k].2).getD i [] = (doneTo p ws im k).getD i [] := by simp [List.getD, List.getElem?_set_ne e1]
          rw [e2, ih]
          have : (∃ j, j < k + 1 ∧ sel i = some j) ↔ (∃ j, j < k ∧ sel i = some j) := by
            constructor
            · rintro ⟨j, hj, hsj⟩
              refine ⟨j, ?_, hsj⟩
              rcases Nat.lt_or_ge j k with h | h
              · exact h
              · have : j = k := by omega
                subst this
                obtain ⟨_, hw3, _⟩ := hs i j hi hsj
                rw [e0] at hw3
                omega
            · rintro ⟨j, hj, hsj⟩; exact ⟨j, by omega, hsj⟩
          simp only [this]
  apply List.ext_getElem
  · rw [doneTo_length, hl]
  · intro i h1 h2
    have hi : i < im.length := by rw [← hl]; exact h2
    have := key ws.length (Nat.le_refl _) i hi
    have e1 : (doneTo p ws im ws.length).getD i [] = (doneTo p ws im ws.length)[i] := by simp [List.getD, h1]
    have e2 : left.getD i [] = left[i] := by simp [List.getD, h2]
    rw [e1] at this
    rw [this]
    cases hsi : sel i with
    | none => rw [if_neg (by rintro ⟨j, _, h⟩; cases h), ← hn i hi hsi, e2]
    | some j => rw [if_pos ⟨j, (hs i j hi hsi).1, rfl⟩, e2]

theorem mayB_imgN {im : List (List Int)} {ws : List Entry} (h0 : mayE im.length ws = 0) (hin : ∀ x ∈ ws, 0 ≤ x.1) (k : Nat) : mayB im ws (imgN ws im k) = true := mayB_done _ h0 hin
theorem imgN_of_mayB {im left : List (List Int)} {ws : List Entry} (h : mayB im ws left = true) : ∃ k, k < 2 ^ ws.length ∧ imgN ws im k = left := by
  simp only [mayB, Bool.and_eq_true, decide_eq_true_eq, List.all_eq_true, List.mem_range] at h
  obtain ⟨_, hl, hok⟩ := h
  -- the write that a place has from
  have hex : ∀ i, i < im.length → left.getD i [] = im.getD i [] ∨ ∃ j, j < ws.length ∧ (ws.getD j (0, [])).1 = i ∧ left.getD i [] = (ws.getD j (0, [])).2 := by
    intro i hi
    have := hok i (by omega)
    simp only [okAt, okTo, Bool.or_eq_true, decide_eq_true_eq, List.take_length, List.any_eq_true] at this
    rcases this with h | ⟨x, hx, hf⟩
    · exact .inl h
    · obtain ⟨j, hj, rfl⟩ := List.getElem_of_mem hx
      simp only [fitsW, Bool.and_eq_true, decide_eq_true_eq] at hf
      have e0 : ws.getD j (0, []) = ws[j] := by simp [List.getD, hj]
      exact .inr ⟨j, hj, by rw [e0]; exact hf.1, by rw [e0]; exact hf.2⟩
  classical
  let sel : Nat → Option Nat := fun i => if left.getD i [] = im.getD i [] then none else if h : ∃ j, j < ws.length ∧ (ws.getD j (0, [])).1 = i ∧ left.getD i [] = (ws.getD j (0, [])).2 then some (Classical.choose h) else none
  let p : Nat → Bool := fun j => decide (∃ i, i < im.length ∧ sel i = some j)
  obtain ⟨k, hk, hkb⟩ := bits_exist p ws.length
  refine ⟨k, hk, ?_⟩
  have e : imgN ws im k = doneTo p ws im ws.length := doneTo_congr _ hkb
  rw [e]
  refine doneTo_sel (sel := sel) hl ?_ ?_ (fun j => by simp [p])
  · intro i j _ hs
    simp only [sel] at hs
    split at hs
    · cases hs
    · split at hs
      · rename_i h'
        injection hs with hs
        have := Classical.choose_spec h'
        rw [hs] at this
        exact this
      · cases hs
  · intro i hi hs
    simp only [sel] at hs
    split at hs
    · assumption
    · rename_i hne
      split at hs
      · cases hs
      · rename_i h'
        rcases hex i hi with h | h
        · exact h
        · exact absurd h h'
/-- each image of the choices is among those that were collected -/
theorem mem_outTo (ws : List Entry) (im : List (List Int)) (n : Nat) : ∀ x, x ∈ outTo ws im n ↔ ∃ k, k < n ∧ x = imgN ws im k := by
  induction n with
  | zero => intro x; simp [outTo]
  | succ n ih =>
    intro x
    rw [outTo_succ]
    unfold outStep
    split
    · rename_i h
      rw [List.any_eq_true] at h
      obtain ⟨y, hy, he⟩ := h
      simp only [decide_eq_true_eq] at he
      rw [ih]
      constructor
      · rintro ⟨k, hk, rfl⟩; exact ⟨k, by omega, rfl⟩
      · rintro ⟨k, hk, rfl⟩
        rcases Nat.lt_or_ge k n with h | h
        · exact ⟨k, h, rfl⟩
        · have : k = n := by omega
          subst this
          rw [← he] at hy
          exact (ih _).1 hy
    · rw [List.mem_append, ih]
      constructor
      · rintro (⟨k, hk, rfl⟩ | h)
        · exact ⟨k, by omega, rfl⟩
        · simp at h; exact ⟨n, by omega, h⟩
      · rintro ⟨k, hk, rfl⟩
        rcases Nat.lt_or_ge k n with h | h
        · exact .inl ⟨k, h, rfl⟩
        · have : k = n := by omega
          subst this
          exact .inr (by simp)
theorem found_law {im left : List (List Int)} {ws : List Entry} (h0 : mayE im.length ws = 0) (hin : ∀ x ∈ ws, 0 ≤ x.1) :
    mayB im ws left = (outTo ws im (2 ^ ws.length)).any fun x => decide (x = left) := by
  rw [Bool.eq_iff_iff, List.any_eq_true]
  constructor
  · intro h
    obtain ⟨k, hk, rfl⟩ := imgN_of_mayB h
    exact ⟨_, (mem_outTo _ _ _ _).2 ⟨k, hk, rfl⟩, by simp⟩
  · rintro ⟨x, hx, he⟩
    simp only [decide_eq_true_eq] at he
    subst he
    obtain ⟨k, _, rfl⟩ := (mem_outTo _ _ _ _).1 hx
    exact mayB_imgN h0 hin k
end Go.Proofs.Ytdgcfgiedclmcaa
