/- Rows of the call's own whose elements have several cells: a whole element stored, the row cut, its tail cleared. No function of the program is named here. -/
import Derived.Test.YtdgcfgiedclmcaaU
import Derived.Lib.SliceRun
namespace Go.Proofs.Ytdgcfgiedclmcaa
open Go.RowKit

theorem add_off (g j m : Nat) : (⟨g, j, none⟩ : Addr).add m = ⟨g, j + m, none⟩ := by unfold Addr.add; split <;> simp_all
/-- cells set one by one -/
def setSeg (cells : List Value) (o : Nat) : List Value → List Value
  | [] => cells
  | v :: r => setSeg (cells.set o v) (o + 1) r
theorem setSeg_length (vs : List Value) : ∀ (cells : List Value) (o : Nat), (setSeg cells o vs).length = cells.length := by
  induction vs with
  | nil => exact fun _ _ => rfl
  | cons v r ih => intro cells o; rw [setSeg, ih, List.length_set]
theorem setSeg_get (vs : List Value) : ∀ (cells : List Value) (o k : Nat), (setSeg cells o vs)[k]? = if o ≤ k ∧ k < o + vs.length ∧ k < cells.length then vs[k - o]? else cells[k]? := by
  induction vs with
  | nil => intro cells o k; rw [setSeg, if_neg (by simp; omega)]
  | cons v r ih =>
    intro cells o k
    rw [setSeg, ih, List.length_set]
    by_cases h1 : o + 1 ≤ k ∧ k < o + 1 + r.length ∧ k < cells.length
    · rw [if_pos h1, if_pos (by simp; omega), show k - o = (k - (o + 1)) + 1 by omega]
      simp
    · rw [if_neg h1]
      by_cases h2 : o = k ∧ k < cells.length
      · obtain ⟨rfl, h3⟩ := h2
        rw [if_pos (by simp; omega), List.getElem?_set_self h3, Nat.sub_self]
        simp
      · rw [if_neg (by simp; omega)]
        by_cases h3 : o = k
        · subst h3
          rw [List.getElem?_eq_none (by rw [List.length_set]; omega), List.getElem?_eq_none (by omega)]
        · rw [List.getElem?_set_ne h3]
theorem setSeg_out {vs cells : List Value} {o : Nat} (h : cells.length ≤ o) : setSeg cells o vs = cells := by
  apply List.ext_getElem?
  intro k
  rw [setSeg_get]
  rw [if_neg (by omega)]

section
variable {α : Type} {e : Enc α} {E : TypeId} {w : World} {base : Nat} {F : Nat → Prop} {xs : List α} {g n c size : Nat}
theorem owns_setCells (vs : List Value) : ∀ {w : World} {cells : List Value} (o : Nat), w.ownsRow base E size (.slice (some ⟨g, 0, none⟩) n c) n cells → (w.setCells g o vs).ownsRow base E size (.slice (some ⟨g, 0, none⟩) n c) n (setSeg cells o vs) := by
  induction vs with
  | nil => exact fun _ h => h
  | cons v r ih => intro w cells o h; exact ih (o + 1) (h.stored o v).1
theorem ch_setCells (vs : List Value) : ∀ (w : World) (o : Nat), Ch g w (w.setCells g o vs) := by
  induction vs with
  | nil => exact fun w _ => .refl g w
  | cons v r ih => intro w o; exact ((Ch.refl g w).setCell rfl v).trans (ih _ (o + 1))
theorem KeepF.ch {w w' : World} (h : Ch g w w') {F : Nat → Prop} (hF : ∀ b, F b → b ≠ g) : KeepF w w' F F := fun b hb hl => ⟨h.block b hl.lt (hF b hb), hb⟩

/-- an element's cells -/
theorem Own.elem (h : Own e E w base F (.slice (some ⟨g, 0, none⟩) n c) xs) (i : Nat) (hi : i < xs.length) : ∃ vs, e.rel w F vs xs[i] ∧ ∀ j u, vs[j]? = some u → w.cell? ⟨g, i * e.size + j, none⟩ = some u := by
  have hn := h.len
  subst hn
  obtain ⟨cells, ho, hr, _⟩ := h
  refine ⟨_, hr i _ (List.getElem?_eq_getElem hi), fun j u hu => ?_⟩
  have hju := hu
  rw [List.getElem?_take] at hu
  split at hu
  · rename_i hj
    rw [List.getElem?_drop] at hu
    rw [ho.cellAt _ (by
      have : (i + 1) * e.size ≤ xs.length * e.size := Nat.mul_le_mul_right _ hi
      rw [Nat.add_mul, Nat.one_mul] at this
      omega), hu]
  · cases hu
theorem Own.froz (h : Own e E w base F (.slice (some ⟨g, 0, none⟩) n c) xs) (o : Nat) : w.frozen? ⟨g, o, none⟩ = false := by
  have hn := h.len
  subst hn
  obtain ⟨cells, ho, _⟩ := h
  exact ho.frozenAt o
theorem Own.has (h : Own e E w base F (.slice (some ⟨g, 0, none⟩) n c) xs) {o : Nat} (ho : o < n * e.size) : (w.cell? ⟨g, o, none⟩).isSome = true := by
  have hn := h.len
  subst hn
  obtain ⟨cells, h1, _⟩ := h
  have hl := h1.1
  rw [h1.cellAt o ho, List.getElem?_eq_getElem (by omega)]
  rfl
/-- a whole element stored -/
theorem Own.storeN (h : Own e E w base F (.slice (some ⟨g, 0, none⟩) n c) xs) (i : Nat) (hi : i < xs.length) {vs : List Value} {y : α} (hy : e.rel w F vs y) :
    Own e E (w.setCells g (i * e.size) vs) base F (.slice (some ⟨g, 0, none⟩) n c) (xs.set i y) := by
  have hn := h.len
  subst hn
  have hng := h.not g rfl
  have hlt := h.lt
  obtain ⟨cells, ho, hr, _, _⟩ := h
  have hk : KeepF w (w.setCells g (i * e.size) vs) F F := .ch (ch_setCells vs w _) fun b hb e => hng (e ▸ hb)
  have hlen := ho.1
  have hvl := e.len hy
  have h1 : (i + 1) * e.size ≤ xs.length * e.size := Nat.mul_le_mul_right _ hi
  rw [Nat.add_mul, Nat.one_mul] at h1
  refine ⟨setSeg cells (i * e.size) vs, by rw [List.length_set]; exact owns_setCells vs _ ho, fun j x hx => ?_, fun g' hg' => by cases hg'; exact hng, fun b hb => Nat.lt_of_lt_of_le (hlt b hb) (ch_setCells (g := g) vs w _).size⟩
  have hj : j < xs.length := by have := (List.getElem?_eq_some_iff.1 hx).1; rwa [List.length_set] at this
  have h2 : (j + 1) * e.size ≤ xs.length * e.size := Nat.mul_le_mul_right _ hj
  rw [Nat.add_mul, Nat.one_mul] at h2
  by_cases hij : i = j
  · subst hij
    rw [List.getElem?_set_self hi] at hx
    cases hx
    have : ((setSeg cells (i * e.size) vs).drop (i * e.size)).take e.size = vs := by
      apply List.ext_getElem?
      intro k
      rw [List.getElem?_take]
      split
      · rename_i hk
        rw [List.getElem?_drop, setSeg_get, if_pos (by omega), Nat.add_sub_cancel_left]
      · rw [List.getElem?_eq_none (by omega)]
    rw [this]
    exact e.keep hy hk
  · rw [List.getElem?_set_ne hij] at hx
    have : ((setSeg cells (i * e.size) vs).drop (j * e.size)).take e.size = (cells.drop (j * e.size)).take e.size := by
      apply List.ext_getElem?
      intro k
      rw [List.getElem?_take, List.getElem?_take]
      split
      · rename_i hk
        rw [List.getElem?_drop, List.getElem?_drop, setSeg_get, if_neg]
        rcases Nat.lt_or_gt_of_ne hij with hlt' | hlt'
        · have : (i + 1) * e.size ≤ j * e.size := Nat.mul_le_mul_right _ hlt'
          rw [Nat.add_mul, Nat.one_mul] at this
          omega
        · have : (j + 1) * e.size ≤ i * e.size := Nat.mul_le_mul_right _ hlt'
          rw [Nat.add_mul, Nat.one_mul] at this
          omega
      · rfl
    rw [this]
    exact e.keep (hr j x hx) hk
/-- the row cut -/
theorem Own.take (h : Own e E w base F (.slice (some ⟨g, 0, none⟩) n c) xs) {m : Nat} (hm : m ≤ n) : Own e E w base F (.slice (some ⟨g, 0, none⟩) m c) (xs.take m) := by
  have hn := h.len
  subst hn
  obtain ⟨cells, ho, hr, hng, hlt⟩ := h
  have h1 : m * e.size ≤ xs.length * e.size := Nat.mul_le_mul_right _ hm
  have hlen := ho.1
  have hl : (xs.take m).length = m := by rw [List.length_take]; omega
  rcases ho.2 with ⟨h0, _⟩ | ⟨g', cap', cur, h', hb, hg, hnc, hcm, hcs, htake⟩
  · simp at h0
  · simp only [Value.slice.injEq, Option.some.injEq, Addr.mk.injEq, and_true, true_and] at h'
    obtain ⟨rfl, rfl⟩ := h'
    refine ⟨cells.take (m * e.size), ⟨by rw [hl, List.length_take]; omega, .inr ⟨g, c, cur, by rw [hl], hb, hg, by omega, hcm, hcs, by rw [hl, ← htake, List.take_take]; congr 1; omega⟩⟩, fun i x hx => ?_, fun g' hg' => hng g' (by simpa [Value.ownBlock] using hg'), hlt⟩
    have hi := (List.getElem?_eq_some_iff.1 hx).1
    rw [hl] at hi
    have h2 : (i + 1) * e.size ≤ m * e.size := Nat.mul_le_mul_right _ hi
    rw [Nat.add_mul, Nat.one_mul] at h2
    rw [List.getElem?_take_of_lt hi] at hx
    have := hr i x hx
    rwa [List.drop_take, List.take_take, Nat.min_eq_left (by omega)]
/-- cells behind the row's end -/
theorem Own.behind (h : Own e E w base F (.slice (some ⟨g, 0, none⟩) n c) xs) {o : Nat} (ho : n * e.size ≤ o) (vs : List Value) : Own e E (w.setCells g o vs) base F (.slice (some ⟨g, 0, none⟩) n c) xs := by
  have hn := h.len
  subst hn
  have hng := h.not g rfl
  have hlt := h.lt
  obtain ⟨cells, h1, hr, _, _⟩ := h
  have hk : KeepF w (w.setCells g o vs) F F := .ch (ch_setCells vs w _) fun b hb e => hng (e ▸ hb)
  refine ⟨cells, ?_, fun i x hx => e.keep (hr i x hx) hk, fun g' hg' => by cases hg'; exact hng, fun b hb => Nat.lt_of_lt_of_le (hlt b hb) (ch_setCells (g := g) vs w _).size⟩
  have := owns_setCells vs o h1
  rwa [setSeg_out (by rw [h1.1]; exact ho)] at this
end

theorem setCells7 (w : World) (g o : Nat) (v0 v1 v2 v3 v4 v5 v6 : Value) :
    (((((((w.setCell ⟨g, o, none⟩ v0).setCell ⟨g, o + 1, none⟩ v1).setCell ⟨g, o + 2, none⟩ v2).setCell ⟨g, o + 3, none⟩ v3).setCell ⟨g, o + 4, none⟩ v4).setCell ⟨g, o + 5, none⟩ v5).setCell ⟨g, o + 6, none⟩ v6) = w.setCells g o [v0, v1, v2, v3, v4, v5, v6] := rfl
/-- 'clear' of a row's tail -/
theorem run_clear_cells {P : Program} (w : World) (t E ty : TypeId) (z : Value) (ht : P.underlying t = some (.slice E)) (hv : ∀ w, (zeroValue E).run P w = .ok z w) (h1 : ∀ u ∈ z.cells.toList, u.oneCell' = true) (b o n c : Nat) (hn : 0 < n)
    (hc : ∀ j, j < n * z.cells.size → (w.cell? ⟨b, o + j, none⟩).isSome = true) (hf : ∀ j, w.frozen? ⟨b, j, none⟩ = false) :
    ∃ vs, (Builtin.clear_ #[t] ty #[.slice (some ⟨b, o, none⟩) n c]).run P w = .ok (.tuple #[]) (w.setCells b o vs) := by
  have hlen : (Builtin.zeroCells z.cells n).toList.length = n * z.cells.size := by simp [Builtin.zeroCells]
  have hst := run_storeCells_cells (P := P) b o (Builtin.zeroCells z.cells n).toList 0 w (by rw [hlen]; simpa using hc) (by simpa using fun j _ => hf (o + j)) (by
    intro v hv'
    obtain ⟨i, hi, rfl⟩ := Array.mem_map.1 (Array.mem_toList_iff.1 hv')
    rw [Array.mem_range] at hi
    by_cases hz : z.cells.size = 0
    · rw [hz, Nat.mul_zero] at hi; omega
    · have hm : i % z.cells.size < z.cells.size := Nat.mod_lt _ (by omega)
      rw [getElem!_pos z.cells _ hm]
      exact h1 _ (by simp))
  simp only [Nat.add_zero] at hst
  obtain ⟨m, rfl⟩ : ∃ m, n = m + 1 := ⟨n - 1, by omega⟩
  refine ⟨(Builtin.zeroCells z.cells (m + 1)).toList, ?_⟩
  simp [Builtin.clear_, run_underlying ht, hv, hst]
end Go.Proofs.Ytdgcfgiedclmcaa
