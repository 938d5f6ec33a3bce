/- Plain laws: how many ways there are; each sector's last write. -/
import Derived.Test.YtdgcfgiedclmcaaB
import Derived.Maps.OwnSet
import Derived.Maps.RangeWalk
namespace Go.Proofs.Ytdgcfgiedclmcaa
open Go.Maps

def cntS (l : List Entry) (s : Int) : Nat := l.countP fun x => decide (x.1 = s)
def hasS (l : List Entry) (s : Int) : Bool := l.any fun x => decide (x.1 = s)
def secAt (ws : List Entry) (i : Nat) : Int := (ws.getD i (0, [])).1
def firstS (ws : List Entry) (i : Nat) : Bool := !hasS (ws.take i) (secAt ws i)
def facS (ws : List Entry) (p : Int → Bool) (i : Nat) : Nat := if firstS ws i && p (secAt ws i) then cntS ws (secAt ws i) + 1 else 1
def prodS (ws : List Entry) (p : Int → Bool) : Nat → Nat
  | 0 => 1
  | k + 1 => prodS ws p k * facS ws p k
/-- how many ways -/
def waysS (ws : List Entry) : Nat := prodS ws (fun _ => true) ws.length

theorem secAt_lt {ws : List Entry} {i : Nat} (h : i < ws.length) : secAt ws i = ws[i].1 := by simp [secAt, List.getD, h]
theorem hasS_succ {ws : List Entry} {k : Nat} (h : k < ws.length) (s : Int) : hasS (ws.take (k + 1)) s = (hasS (ws.take k) s || decide (secAt ws k = s)) := by
  simp only [hasS]
  rw [List.take_succ_eq_append_getElem h, List.any_append, secAt_lt h]; simp
theorem cntS_succ {ws : List Entry} {k : Nat} (h : k < ws.length) (s : Int) : cntS (ws.take (k + 1)) s = cntS (ws.take k) s + if secAt ws k = s then 1 else 0 := by
  simp only [cntS]
  rw [List.take_succ_eq_append_getElem h, List.countP_append, secAt_lt h]; simp
theorem prodS_congr {ws : List Entry} {p q : Int → Bool} (k : Nat) (h : ∀ i, i < k → p (secAt ws i) = q (secAt ws i)) : prodS ws p k = prodS ws q k := by
  induction k with
  | zero => rfl
  | succ k ih => simp only [prodS, facS, ih fun i hi => h i (by omega), h k (by omega)]
theorem prodS_none {ws : List Entry} {p : Int → Bool} (h : ∀ z, p z = false) (k : Nat) : prodS ws p k = 1 := by
  induction k with
  | zero => rfl
  | succ k ih => simp [prodS, facS, ih, h]
theorem prodS_pos (ws : List Entry) (p : Int → Bool) (k : Nat) : 0 < prodS ws p k := by
  induction k with
  | zero => simp [prodS]
  | succ k ih =>
    simp only [prodS]
    refine Nat.mul_pos ih ?_
    unfold facS; split <;> omega
theorem prodS_key {ws : List Entry} {p : Int → Bool} {x : Int} (hp : p x = true) (k : Nat) (hk : k ≤ ws.length) :
    prodS ws p k = prodS ws (fun z => p z && !decide (z = x)) k * (if hasS (ws.take k) x then cntS ws x + 1 else 1) := by
  induction k with
  | zero => simp [prodS, hasS]
  | succ k ih =>
    have ih := ih (by omega)
    have hl : k < ws.length := by omega
    rw [hasS_succ hl]
    simp only [prodS]
    rw [ih]
    generalize prodS ws (fun z => p z && !decide (z = x)) k = A
    by_cases e : secAt ws k = x
    · cases hh : hasS (ws.take k) x with
      | true => simp [facS, firstS, e, hh]
      | false => simp [facS, firstS, e, hh, hp]
    · simp only [facS, e, decide_false, Bool.not_false, Bool.and_true, Bool.or_false]
      rw [Nat.mul_assoc, Nat.mul_assoc, Nat.mul_comm (if hasS _ _ = true then _ else _)]
theorem prodS_step {ws : List Entry} {p : Int → Bool} {x : Int} (hp : p x = true) (hx : hasS ws x = true) : prodS ws p ws.length = prodS ws (fun z => p z && !decide (z = x)) ws.length * (cntS ws x + 1) := by
  rw [prodS_key hp _ (Nat.le_refl _), List.take_length, hx]; simp
theorem countP_or {α : Type} (p q : α → Bool) (l : List α) (h : ∀ x ∈ l, ¬ (p x = true ∧ q x = true)) : l.countP (fun x => p x || q x) = l.countP p + l.countP q := by
  induction l with
  | nil => rfl
  | cons x l ih =>
    rw [List.countP_cons, List.countP_cons, List.countP_cons, ih fun y hy => h y (by simp [hy])]
    have := h x (by simp)
    cases hp : p x <;> cases hq : q x <;> simp_all <;> omega
theorem prodS_le (ws : List Entry) (k : Nat) (hk : k ≤ ws.length) : prodS ws (fun _ => true) k ≤ 2 ^ ws.countP (fun x => hasS (ws.take k) x.1) := by
  induction k with
  | zero => simp [prodS]; exact Nat.one_le_two_pow
  | succ k ih =>
    have ih := ih (by omega)
    have hl : k < ws.length := by omega
    simp only [prodS]
    cases hf : firstS ws k with
    | false =>
      have hh : hasS (ws.take k) (secAt ws k) = true := by simpa [firstS] using hf
      have e : ∀ s, hasS (ws.take (k + 1)) s = hasS (ws.take k) s := fun s => by
        rw [hasS_succ hl]
        by_cases e : secAt ws k = s
        · subst e; simp [hh]
        · simp [e]
      simp only [facS, hf, e, Bool.false_and]
      simpa using ih
    | true =>
      have hh : hasS (ws.take k) (secAt ws k) = false := by simpa [firstS] using hf
      have e : ws.countP (fun x => hasS (ws.take (k + 1)) x.1) = ws.countP (fun x => hasS (ws.take k) x.1) + cntS ws (secAt ws k) := by
        simp only [hasS_succ hl]
        rw [countP_or (fun x : Entry => hasS (ws.take k) x.1) (fun x : Entry => decide (secAt ws k = x.1)) ws (fun x _ ⟨h1, h2⟩ => by
          simp only [decide_eq_true_eq] at h2
          rw [← h2, hh] at h1; cases h1)]
        simp only [cntS, eq_comm]
      rw [e, Nat.pow_add]
      refine Nat.mul_le_mul ih ?_
      simp only [facS, hf, Bool.true_and, if_true]
      exact Nat.lt_two_pow_self
theorem waysS_le (ws : List Entry) : waysS ws ≤ 2 ^ ws.length := Nat.le_trans (prodS_le ws _ (Nat.le_refl _)) (Nat.pow_le_pow_right (by omega) List.countP_le_length)
theorem cntS_le (l : List Entry) (s : Int) : cntS l s ≤ l.length := List.countP_le_length
theorem hasS_false {l : List Entry} {s : Int} (h : hasS l s = false) : cntS l s = 0 := by
  simp only [cntS, List.countP_eq_zero]
  intro x hx
  simpa using List.any_eq_false.1 h x hx

/-! ### the map of how many -/
def MapS (D : DataW Unit) (l : List Entry) : Prop := IsMap D ∧ (∀ s, has D (.int .i64 s) = hasS l s) ∧ ∀ s z, hasS l s = true → D.atKey (.int .i64 s) z = .lit (.int .i64 (cntS l s))
theorem MapS.nil : MapS (.map []) [] := ⟨isMap_empty, fun _ => rfl, fun _ _ h => by cases h⟩
theorem MapS.look {D : DataW Unit} {l : List Entry} (h : MapS D l) {s c : Int} (hc : D.atKey (.int .i64 s) (.lit (.int .i64 0)) = .lit (.int .i64 c)) : c = cntS l s := by
  cases hh : hasS l s with
  | true => rw [h.2.2 s _ hh] at hc; cases hc; rfl
  | false =>
    rw [atKey_of_not_has ((h.2.1 s).trans hh)] at hc
    cases hc
    rw [hasS_false hh]; rfl
theorem MapS.put {D : DataW Unit} {l : List Entry} (h : MapS D l) (x : Entry) {c : Int} (hc : c = cntS l x.1 + 1) : MapS (D.put (.int .i64 x.1) (.lit (.int .i64 c))) (l ++ [x]) := by
  subst hc
  refine ⟨h.1.put _ _, fun s => ?_, fun s z hs => ?_⟩
  · by_cases e : s = x.1
    · subst e; rw [has_put_same (k := .int .i64 x.1) h.1 trivial]; simp [hasS]
    · rw [has_put_other (by intro h; injection h with _ h; exact e h), h.2.1]
      simp [hasS, Ne.symm e]
  · by_cases e : s = x.1
    · subst e; rw [atKey_put_same (k := .int .i64 x.1) h.1 trivial]; simp [cntS]
    · rw [atKey_put_other (by intro h; injection h with _ h; exact e h)]
      have : hasS l s = true := by simpa [hasS, Ne.symm e] using hs
      rw [h.2.2 s z this]
      simp [cntS, Ne.symm e]
/-- an entry that the range hands over -/
theorem MapS.entry {D : DataW Unit} {l : List Entry} (h : MapS D l) {s c : Int} (hc : ∀ zd, D.atKey (.int .i64 s) zd = .lit (.int .i64 c)) : hasS l s = true ∧ c = cntS l s := by
  cases hh : hasS l s with
  | true => have := hc .nil; rw [h.2.2 s _ hh] at this; cases this; exact ⟨rfl, rfl⟩
  | false =>
    have := hc .nil
    rw [atKey_of_not_has ((h.2.1 s).trans hh)] at this
    cases this

/-! ### each sector's last write -/
def lastOf (ws : List Entry) (k : Nat) : Bool := !hasS (ws.drop (k + 1)) (secAt ws k)
def lastTo (ws : List Entry) : Nat → List Entry
  | 0 => []
  | k + 1 => if lastOf ws k then lastTo ws k ++ [ws.getD k (0, [])] else lastTo ws k
theorem lastTo_length (ws : List Entry) (k : Nat) : (lastTo ws k).length ≤ k := by
  induction k with
  | zero => simp [lastTo]
  | succ k ih => simp only [lastTo]; split <;> (try simp) <;> omega
/-- as the law asks -/
def firstTo (ws : List Entry) (i j : Nat) : Bool := (List.range j).all fun k => !decide (secAt ws k = secAt ws i) || decide (i ≤ k)
def endTo (ws : List Entry) (i j : Nat) : Bool := (List.range j).all fun k => !decide (secAt ws k = secAt ws i) || decide (k ≤ i)
theorem firstTo_succ (ws : List Entry) (i j : Nat) : firstTo ws i (j + 1) = (firstTo ws i j && (!decide (secAt ws j = secAt ws i) || decide (i ≤ j))) := by simp [firstTo, List.range_succ, List.all_append]
theorem endTo_succ (ws : List Entry) (i j : Nat) : endTo ws i (j + 1) = (endTo ws i j && (!decide (secAt ws j = secAt ws i) || decide (j ≤ i))) := by simp [endTo, List.range_succ, List.all_append]
theorem mem_take_sec {ws : List Entry} {i : Nat} {s : Int} (hi : i ≤ ws.length) : hasS (ws.take i) s = true ↔ ∃ k, k < i ∧ secAt ws k = s := by
  simp only [hasS, List.any_eq_true, decide_eq_true_eq]
  constructor
  · rintro ⟨x, hx, rfl⟩
    obtain ⟨k, hk, rfl⟩ := List.getElem_of_mem hx
    simp at hk
    exact ⟨k, by omega, by rw [secAt_lt (by omega)]; simp⟩
  · rintro ⟨k, hk, rfl⟩
    exact ⟨ws[k]'(by omega), List.mem_take_iff_getElem.2 ⟨k, by omega, rfl⟩, by rw [secAt_lt (by omega)]⟩
theorem mem_drop_sec {ws : List Entry} {i : Nat} {s : Int} : hasS (ws.drop i) s = true ↔ ∃ k, i ≤ k ∧ k < ws.length ∧ secAt ws k = s := by
  simp only [hasS, List.any_eq_true, decide_eq_true_eq]
  constructor
  · rintro ⟨x, hx, rfl⟩
    obtain ⟨k, hk, rfl⟩ := List.getElem_of_mem hx
    simp at hk
    exact ⟨i + k, by omega, by omega, by rw [secAt_lt (by omega)]; simp⟩
  · rintro ⟨k, h1, h2, rfl⟩
    refine ⟨ws[k], List.mem_drop_iff_getElem.2 ⟨k - i, by omega, ?_⟩, by rw [secAt_lt h2]⟩
    congr 1; omega
theorem firstTo_all {ws : List Entry} {i : Nat} (hi : i < ws.length) : firstTo ws i ws.length = firstS ws i := by
  rw [Bool.eq_iff_iff, firstS, Bool.not_eq_true', ← Bool.not_eq_true, mem_take_sec (by omega)]
  simp only [firstTo, List.all_eq_true, List.mem_range, Bool.or_eq_true, Bool.not_eq_true', decide_eq_false_iff_not, decide_eq_true_eq]
  constructor
  · rintro h ⟨k, hk, e⟩
    rcases h k (by omega) with h | h
    · exact h e
    · omega
  · intro h k hk
    by_cases e : secAt ws k = secAt ws i
    · refine .inr ?_
      rcases Nat.lt_or_ge k i with hl | hl
      · exact absurd ⟨k, hl, e⟩ h
      · exact hl
    · exact .inl e
theorem endTo_all (ws : List Entry) (i : Nat) : endTo ws i ws.length = lastOf ws i := by
  rw [Bool.eq_iff_iff, lastOf, Bool.not_eq_true', ← Bool.not_eq_true, mem_drop_sec]
  simp only [endTo, List.all_eq_true, List.mem_range, Bool.or_eq_true, Bool.not_eq_true', decide_eq_false_iff_not, decide_eq_true_eq]
  constructor
  · rintro h ⟨k, hk, hl, e⟩
    rcases h k (by omega) with h | h
    · exact h e
    · omega
  · intro h k hk
    by_cases e : secAt ws k = secAt ws i
    · refine .inr ?_
      rcases Nat.lt_or_ge i k with hl | hl
      · exact absurd ⟨k, by omega, hk, e⟩ h
      · exact hl
    · exact .inl e
end Go.Proofs.Ytdgcfgiedclmcaa
