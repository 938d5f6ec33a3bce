/- Plain laws for CatalogChanges: three rows of the call's own; what the law collects. -/
import Derived.Test.YtdgcfgiedclmcaaJ2
import Derived.Test.YtdgcfgiedclmcaaI6
import Derived.Test.YtdgcfgiedclmcaaI5
namespace Go.Proofs.Ytdgcfgiedclmcaa
open Go.RowKit

/-- three rows of the call's own, apart -/
structure Three (w : World) (B fl : Nat) (a b c : Value) (la lb lc : List Space) : Prop where
  oa : Own Enc.space 77 w B (fun k => k < fl) a la
  ob : Own Enc.space 77 w B (fun k => k < fl) b lb
  oc : Own Enc.space 77 w B (fun k => k < fl) c lc
  nab : ∀ g, a.ownBlock = some g → b.ownBlock ≠ some g
  nbc : ∀ g, b.ownBlock = some g → c.ownBlock ≠ some g
  nca : ∀ g, c.ownBlock = some g → a.ownBlock ≠ some g
section
variable {w w' : World} {B fl : Nat} {a b c v : Value} {la lb lc l' : List Space}
theorem Three.rot (h : Three w B fl a b c la lb lc) : Three w B fl b c a lb lc la := ⟨h.ob, h.oc, h.oa, h.nbc, h.nca, h.nab⟩
theorem Three.all (h : Three w B fl a b c la lb lc) (hb : Below w.heap.size w w') : Three w' B fl a b c la lb lc := ⟨h.oa.all hb, h.ob.all hb, h.oc.all hb, h.nab, h.nbc, h.nca⟩
theorem Three.nots (h : Three w B fl a b c la lb lc) (hf : fl ≤ B) : ∀ g, a.ownBlock = some g → ¬ g < fl := fun g hg => by have := (h.oa.blk hg).1; omega
theorem Three.step (h : Three w B fl a b c la lb lc) (hf : fl ≤ B) (ho : Own Enc.space 77 w' B (fun k => k < fl ∨ (k < fl ∧ k < w.heap.size)) v l') (hg : w.grownBy w' a.ownBlock) (hat : v.ownBlock = a.ownBlock ∨ v.ownBlock = some w.heap.size) (hw : fl ≤ w.heap.size) :
    Three w' B fl v b c l' lb lc := by
  have hF : ∀ k, k < fl → some k ≠ a.ownBlock := fun k hk e => by have := (h.oa.blk e.symm).1; omega
  have hvb : b.ownBlock = none ∨ b.ownBlock ≠ a.ownBlock := by
    cases hb : b.ownBlock with
    | none => exact .inl rfl
    | some g => exact .inr fun e => h.nab g e.symm hb
  have hvc : c.ownBlock = none ∨ c.ownBlock ≠ a.ownBlock := by
    cases hc : c.ownBlock with
    | none => exact .inl rfl
    | some g => exact .inr fun e => h.nca g hc e.symm
  refine ⟨ho.weaken (fun k hk => hk.elim (fun h => h) (·.1)) (fun g hg' hk => by have := (ho.blk hg').1; omega) (fun k hk => by have := hg.size; omega), h.ob.grown hg hF hvb, h.oc.grown hg hF hvc, fun g hgv hgb => ?_, h.nbc, fun g hgc hgv => ?_⟩
  · rcases hat with e | e
    · exact h.nab g (e ▸ hgv) hgb
    · rw [e] at hgv; cases hgv
      have := (h.ob.blk hgb).2; omega
  · rcases hat with e | e
    · exact h.nca g hgc (e ▸ hgv)
    · rw [e] at hgv; cases hgv
      have := (h.oc.blk hgc).2; omega
theorem Three.nil (w : World) (B fl : Nat) (h : fl ≤ w.heap.size) : Three w B fl (.slice none 0 0) (.slice none 0 0) (.slice none 0 0) [] [] [] := by
  have h1 : Own Enc.space 77 w B (fun k => k < fl) (.slice none 0 0) [] := (Own.nil _ _ _ _).weaken (fun _ h => h.elim) (fun g hg => by cases hg) (fun _ hk => by omega)
  have h2 : ∀ g, (Value.slice none 0 0).ownBlock = some g → (Value.slice none 0 0).ownBlock ≠ some g := fun g hg => by cases hg
  exact ⟨h1, h1, h1, h2, h2, h2⟩
end

/-- whether one was greater; all so far, and the new one ahead of the first greater -/
def wTo (l : List Space) (y : Space) : Nat → Bool × List Space
  | 0 => (false, [])
  | k + 1 => if (wTo l y k).1 = false ∧ y.id < (l.getD k space0).id then (true, (wTo l y k).2 ++ [y] ++ [l.getD k space0]) else ((wTo l y k).1, (wTo l y k).2 ++ [l.getD k space0])
def atTo (l : List Space) (i : Int) : Nat → Int
  | 0 => -1
  | k + 1 => if (l.getD k space0).id = i then (k : Int) else atTo l i k
theorem getD_at {l : List Space} {k : Nat} (hk : k < l.length) : l.getD k space0 = l[k] := by simp [List.getD, hk]

theorem wTo_eq (l : List Space) (y : Space) : ∀ k, k ≤ l.length → wTo l y k = match l.findIdx? (fun x => decide (y.id < x.id)) with
    | some f => if f < k then (true, l.take f ++ y :: (l.take k).drop f) else (false, l.take k)
    | none => (false, l.take k)
  | 0, _ => by
    unfold wTo
    split <;> simp
  | k + 1, hk => by
    have hk' : k < l.length := hk
    unfold wTo
    rw [wTo_eq l y k (by omega), getD_at hk']
    cases hf : l.findIdx? (fun x => decide (y.id < x.id)) with
    | none =>
      rw [List.findIdx?_eq_none_iff] at hf
      have := hf _ (List.getElem_mem hk')
      simp only [decide_eq_false_iff_not] at this
      simp only [this, and_false, if_false]
      rw [List.take_succ_eq_append_getElem hk']
    | some f =>
      obtain ⟨hfl, hp, hn⟩ := List.findIdx?_eq_some_iff_getElem.1 hf
      simp only [decide_eq_true_eq] at hp
      by_cases h1 : f < k
      · simp only [h1, if_true, Bool.true_eq_false, false_and, if_false, show f < k + 1 by omega]
        rw [List.take_succ_eq_append_getElem hk', List.drop_append_of_le_length (by rw [List.length_take]; omega)]
        simp
      · by_cases h2 : f = k
        · subst h2
          simp only [Nat.lt_irrefl, if_false, hp, and_self, if_true, Nat.lt_succ_self]
          rw [List.take_succ_eq_append_getElem hk', List.drop_append_of_le_length (by rw [List.length_take]; omega), List.drop_of_length_le (by rw [List.length_take]; omega)]
          simp
        · have h3 := hn k (by omega)
          simp only [decide_eq_true_eq] at h3
          simp only [h1, if_false, h3, and_false, show ¬ f < k + 1 by omega]
          rw [List.take_succ_eq_append_getElem hk']
theorem wTo_done (l : List Space) (y : Space) : (if (wTo l y l.length).1 then (wTo l y l.length).2 else (wTo l y l.length).2 ++ [y]) = l.take (addAt l y.id) ++ y :: l.drop (addAt l y.id) := by
  rw [wTo_eq l y _ (Nat.le_refl _)]
  unfold addAt fidx
  cases hf : l.findIdx? (fun x => decide (y.id < x.id)) with
  | none => simp
  | some f =>
    obtain ⟨hfl, _⟩ := List.findIdx?_eq_some_iff_getElem.1 hf
    have : ¬ ((f : Int) < 0) := by omega
    simp [hfl, this]

theorem listed_lt {l : List Space} (h : listedB l = true) {j : Nat} : ∀ {k : Nat} (hjk : j < k) (hk : k < l.length), (l[j]'(Nat.lt_trans hjk hk)).id < l[k].id
  | k + 1, hjk, hk => by
    unfold listedB at h
    rw [List.all_eq_true] at h
    have h1 := h (k + 1) (List.mem_range.2 hk)
    simp only [goodId, Bool.and_eq_true, decide_eq_true_eq] at h1
    rw [lastId_at hk, lastId_at (show k < l.length by omega)] at h1
    by_cases hj : j = k
    · subst hj; exact h1.1
    · have := listed_lt (l := l) (by unfold listedB; rw [List.all_eq_true]; exact h) (j := j) (k := k) (by omega) (by omega)
      omega
theorem listed_uniq {l : List Space} (h : listedB l = true) {j k : Nat} (hj : j < l.length) (hk : k < l.length) (e : l[j].id = l[k].id) : j = k := by
  rcases Nat.lt_trichotomy j k with hlt | heq | hgt
  · have := listed_lt h hlt hk; omega
  · exact heq
  · have := listed_lt h hgt hj; omega
theorem atTo_none {l : List Space} {i : Int} (h : ∀ x ∈ l, (x.id == i) = false) : ∀ k, k ≤ l.length → atTo l i k = -1
  | 0, _ => rfl
  | k + 1, hk => by
    have := h _ (List.getElem_mem (show k < l.length from hk))
    unfold atTo
    rw [getD_at (show k < l.length from hk), if_neg (by simpa using this), atTo_none h k (by omega)]
theorem atTo_some {l : List Space} {i : Int} (h : listedB l = true) {f : Nat} (hf : f < l.length) (e : l[f].id = i) : ∀ k, k ≤ l.length → atTo l i k = if f < k then (f : Int) else -1
  | 0, _ => rfl
  | k + 1, hk => by
    have hk' : k < l.length := hk
    unfold atTo
    rw [getD_at hk', atTo_some h hf e k (by omega)]
    by_cases hkf : l[k].id = i
    · have := listed_uniq h hk' hf (hkf.trans e.symm)
      subst this
      simp [hkf]
    · rw [if_neg hkf]
      have : f ≠ k := fun e' => hkf (by subst e'; exact e)
      by_cases h1 : f < k
      · rw [if_pos h1, if_pos (by omega)]
      · rw [if_neg h1, if_neg (by omega)]
theorem listed_cases {l : List Space} (h : listedB l = true) (i : Int) (y : Space) :
    (findI l i = -1 ∧ atTo l i l.length = -1) ∨ ∃ f : Nat, f < l.length ∧ findI l i = f ∧ atTo l i l.length = f ∧ l.filter (fun x => !(x.id == i)) = l.eraseIdx f ∧ l.map (fun x => if x.id = i then y else x) = l.set f y := by
  rcases fidx_cases (fun x : Space => x.id == i) l with ⟨hx, hall⟩ | ⟨f, hf, hx, hp, hbef⟩
  · exact .inl ⟨hx, atTo_none hall _ (Nat.le_refl _)⟩
  · have hp' : l[f].id = i := by simpa using hp
    have hne : ∀ k (hk : k < l.length), k ≠ f → ¬ l[k].id = i := fun k hk hkf e => hkf (listed_uniq h hk hf (e.trans hp'.symm))
    refine .inr ⟨f, hf, hx, by rw [atTo_some h hf hp' _ (Nat.le_refl _), if_pos hf], ?_, ?_⟩
    · rw [List.eraseIdx_eq_take_drop_succ]
      conv => lhs; rw [← List.take_append_drop f l, List.drop_eq_getElem_cons hf]
      rw [List.filter_append, List.filter_cons, if_neg (by simp [hp']), List.filter_eq_self.2, List.filter_eq_self.2]
      · intro x hx
        obtain ⟨j, hj, rfl⟩ := List.mem_drop_iff_getElem.1 hx
        simpa using hne _ (by omega) (by omega)
      · intro x hx
        obtain ⟨j, hj, rfl⟩ := List.mem_take_iff_getElem.1 hx
        simpa using hne j (by omega) (by omega)
    · apply List.ext_getElem (by simp)
      intro k hk1 hk2
      rw [List.getElem_map, List.getElem_set]
      have hk : k < l.length := by simpa using hk1
      by_cases hkf : f = k
      · subst hkf; simp [hp']
      · rw [if_neg (hne k hk (fun e => hkf e.symm)), if_neg hkf]
end Go.Proofs.Ytdgcfgiedclmcaa
