/- copy and append of zeros over elements of several cells; a row of the call's own that one element comes into. No function of the program is named here. -/
import Derived.Test.YtdgcfgiedclmcaaH7
import Derived.Lib.AppendZeros
import Derived.Lib.Overlaps
import Derived.Laws.IdiomCopy
namespace Go.Proofs.Ytdgcfgiedclmcaa
open Go.RowKit Go.Lib

theorem run_copy_sized {P : Program} (w : World) (dT sT ty elem : TypeId) (b o dLen dCap : Nat) (a : Addr) (sLen sCap size : Nat) (cs : List Value)
    (hu : P.underlying dT = some (.slice elem)) (hs : (P.info? elem).map (·.size) = some size) (hn : cs.length = Nat.min sLen dLen * size)
    (hsrc : ∀ j v, cs[j]? = some v → w.cell? (a.add j) = some v) (hc : ∀ j, j < cs.length → (w.cell? ⟨b, o + j, none⟩).isSome = true) (hf : ∀ j, j < cs.length → w.frozen? ⟨b, o + j, none⟩ = false) (h1 : ∀ v ∈ cs, v.oneCell' = true) :
    (Builtin.copy_ #[dT, sT] ty #[.slice (some ⟨b, o, none⟩) dLen dCap, .slice (some a) sLen sCap]).run P w = .ok (goInt (Nat.min sLen dLen)) (w.setCells b o cs) := by
  have hl := run_loadCells_list (P := P) w a cs hsrc
  have hst := run_storeCells_cells (P := P) b o cs 0 w (by simpa using hc) (by simpa using hf) h1
  cases hq : P.info? elem with
  | none => simp [hq] at hs
  | some i =>
    have hi : i.size = size := by simpa [hq] using hs
    simp [Builtin.copy_, run_underlying hu, Builtin.lenOf, Builtin.firstCells, sizeOf, typeInfo, hq, hi, ← hn, hl, hst]

theorem run_append_zeros_grow {P : Program} (w : World) (t tn ty e : TypeId) (i : TypeInfo) (z : Value) (k kn : IntKind) (ht : P.underlying t = some (.slice e)) (htn : P.underlying tn = some (.int kn)) (hi : P.info? e = some i) (hz : i.zero = some z)
    (ad : Addr) (m c n : Nat) (old : List Value) (h0 : 0 < n) (hs : 0 < i.size) (hc : c < m + n) (hc2 : c < 256) (hmn : m + n ≤ 1000) (hby : i.bytes ≤ 100000) (hold : old.length = m * i.size)
    (hsrc : ∀ j v, old[j]? = some v → w.cell? (ad.add j) = some v) :
    (Builtin.append_ #[t, tn] ty #[.slice (some ad) m c, .int k n]).run P w =
      .ok (.slice (some ⟨w.heap.size, 0, none⟩) (m + n) (grownCap w (m + n) c e)) (w.drew.alloc (.cells (old.toArray ++ Builtin.zeroCells z.cells n ++ Builtin.zeroCells z.cells (grownCap w (m + n) c e - (m + n))) e)) := by
  have hl := run_loadCells_list (P := P) w.drew ad old (by simpa using hsrc)
  have hn : n ≠ 0 := by omega
  have hw : IntKind.i64.wrap (n : Int) = n := by rw [IntKind.wrap_i64]; omega
  have h63' : ¬ (9223372036854775807 < (m : Int) + (n : Int)) := by omega
  have hns : Builtin.nextslicecap (m + n) c ≤ 2 * (m + n) := by
    unfold Builtin.nextslicecap
    split <;> omega
  have h48' : ¬ (281474976710656 < Builtin.nextslicecap (m + n) c * i.bytes) := by
    have h1 : Builtin.nextslicecap (m + n) c * i.bytes ≤ 2000 * 100000 := Nat.mul_le_mul (by omega) hby
    omega
  have h48i : ¬ (281474976710656 < (n : Int) * (i.bytes : Int)) := by
    rw [← Int.natCast_mul]
    have h1 : n * i.bytes ≤ 1000 * 100000 := Nat.mul_le_mul (by omega) hby
    omega
  have hneg : ¬ ((n : Int) < 0) := by omega
  have hnz : ¬ (n * i.size = 0) := Nat.mul_ne_zero hn (by omega)
  have hcc : ¬ (m + n ≤ c) := by omega
  simp [Builtin.append_, run_underlying ht, run_underlying htn, sizeOf, typeInfo, zeroValue, hi, hz, asInt, asIntOf, hw, hneg, hnz, hcc, h63', h48', h48i, Question.forced, Builtin.firstCells, ← hold, hl, newRow, grownCap]

section
variable {α : Type} {e : Enc α} {E : TypeId} {w : World} {base : Nat} {F G : Nat → Prop} {xs : List α} {g n c size i : Nat} {cells : List Value}
theorem owns_extend (h : w.ownsRow base E size (.slice (some ⟨g, 0, none⟩) n c) n cells) (hn : n < c) : ∃ ex, ex.length = size ∧ w.ownsRow base E size (.slice (some ⟨g, 0, none⟩) (n + 1) c) (n + 1) (cells ++ ex) := by
  rcases h.2 with ⟨h', _⟩ | ⟨g', cap', cur, h', hb, hg, hnc, hcm, hcs, htake⟩
  · simp at h'
  · simp only [Value.slice.injEq, Option.some.injEq, Addr.mk.injEq, and_true, true_and] at h'
    obtain ⟨rfl, rfl⟩ := h'
    have h1 : (n + 1) * size ≤ c * size := Nat.mul_le_mul_right _ hn
    rw [Nat.add_mul, Nat.one_mul] at h1
    have h2 : cur.toList.length = c * size := by simpa using hcs
    have h3 : cur.toList.take ((n + 1) * size) = cells ++ (cur.toList.drop (n * size)).take size := by
      rw [← htake, Nat.add_mul, Nat.one_mul, List.take_add]
    refine ⟨(cur.toList.drop (n * size)).take size, by rw [List.length_take, List.length_drop]; omega, ?_, .inr ⟨g, c, cur, rfl, hb, hg, hn, hcm, hcs, h3⟩⟩
    rw [← h3, List.length_take, Nat.add_mul, Nat.one_mul]; omega
theorem seg_get {vs : List Value} (hl : cells.length = n * size) (hvs : vs.length = size) (hi : i ≤ n) (k : Nat) :
    (cells.take (i * size) ++ (vs ++ cells.drop (i * size)))[k]? = if k < i * size then cells[k]? else if k < i * size + size then vs[k - i * size]? else cells[k - size]? := by
  have h1 : i * size ≤ n * size := Nat.mul_le_mul_right _ hi
  have hlt : (cells.take (i * size)).length = i * size := by rw [List.length_take]; omega
  by_cases hk1 : k < i * size
  · rw [if_pos hk1, List.getElem?_append_left (by omega), List.getElem?_take_of_lt hk1]
  · rw [if_neg hk1, List.getElem?_append_right (by omega), hlt]
    by_cases hk2 : k < i * size + size
    · rw [if_pos hk2, List.getElem?_append_left (by omega)]
    · rw [if_neg hk2, List.getElem?_append_right (by omega), hvs, List.getElem?_drop]
      congr 1; omega
theorem seg_insert {ex vs : List Value} (hl : cells.length = n * size) (hex : size ≤ ex.length) (hvs : vs.length = size) (hi : i ≤ n) :
    (setSeg (setSeg (cells ++ ex) ((i + 1) * size) (cells.drop (i * size))) (i * size) vs).take ((n + 1) * size) = cells.take (i * size) ++ (vs ++ cells.drop (i * size)) := by
  have h1 : i * size ≤ n * size := Nat.mul_le_mul_right _ hi
  apply List.ext_getElem?
  intro k
  rw [seg_get hl hvs hi, List.getElem?_take, setSeg_get, setSeg_get, setSeg_length, List.length_append, List.length_drop, hvs, hl]
  rw [Nat.add_mul, Nat.one_mul, Nat.add_mul, Nat.one_mul]
  by_cases hk1 : k < i * size
  · rw [if_pos (by omega), if_neg (by omega), if_neg (by omega), if_pos hk1, List.getElem?_append_left (by omega)]
  · rw [if_neg hk1]
    by_cases hk2 : k < i * size + size
    · rw [if_pos (by omega), if_pos (by omega), if_pos hk2]
    · rw [if_neg hk2]
      by_cases hk3 : k < n * size + size
      · rw [if_pos (by omega), if_neg (by omega), if_pos (by omega), List.getElem?_drop]
        congr 1; omega
      · rw [if_neg (by omega), List.getElem?_eq_none (by omega)]
theorem seg_insert2 {ex vs : List Value} (hl : cells.length = n * size) (hex : (n + 1 - i) * size ≤ ex.length) (hvs : vs.length = size) (hi : i ≤ n) :
    (setSeg (setSeg (cells.take (i * size) ++ ex) (i * size) vs) ((i + 1) * size) (cells.drop (i * size))).take ((n + 1) * size) = cells.take (i * size) ++ (vs ++ cells.drop (i * size)) := by
  have h1 : i * size ≤ n * size := Nat.mul_le_mul_right _ hi
  have h2 : (n + 1 - i) * size = n * size + size - i * size := by rw [Nat.sub_mul, Nat.add_mul, Nat.one_mul]
  rw [h2] at hex
  apply List.ext_getElem?
  intro k
  rw [seg_get hl hvs hi, List.getElem?_take, setSeg_get, setSeg_get, setSeg_length, List.length_append, List.length_drop, List.length_take, hvs, hl, Nat.min_eq_left h1]
  rw [Nat.add_mul, Nat.one_mul, Nat.add_mul, Nat.one_mul]
  by_cases hk1 : k < i * size
  · rw [if_pos (by omega), if_neg (by omega), if_neg (by omega), if_pos hk1, List.getElem?_append_left (by rw [List.length_take]; omega), List.getElem?_take_of_lt hk1]
  · rw [if_neg hk1]
    by_cases hk2 : k < i * size + size
    · rw [if_pos (by omega), if_neg (by omega), if_pos (by omega), if_pos hk2]
    · rw [if_neg hk2]
      by_cases hk3 : k < n * size + size
      · rw [if_pos (by omega), if_pos (by omega), List.getElem?_drop]
        congr 1; omega
      · rw [if_neg (by omega), List.getElem?_eq_none (by omega)]
/-- the elements of a row into which one has come -/
theorem insert_rel {vs : List Value} {y : α} {R : List Value → α → Prop} (hs : 0 < size) (hl : cells.length = n * size) (hxl : xs.length = n) (hvs : vs.length = size) (hi : i ≤ n) (hr : ∀ (j : Nat) (x : α), xs[j]? = some x → R ((cells.drop (j * size)).take size) x) (hy : R vs y) :
    ∀ (j : Nat) (x : α), (xs.take i ++ y :: xs.drop i)[j]? = some x → R (((cells.take (i * size) ++ (vs ++ cells.drop (i * size))).drop (j * size)).take size) x := by
  intro j x hx
  have h1 : i * size ≤ n * size := Nat.mul_le_mul_right _ hi
  have hlt : (xs.take i).length = i := by rw [List.length_take]; omega
  have hlc : (cells.take (i * size)).length = i * size := by rw [List.length_take]; omega
  by_cases hj : j < i
  · rw [List.getElem?_append_left (by omega), List.getElem?_take_of_lt hj] at hx
    have h2 : (j + 1) * size ≤ i * size := Nat.mul_le_mul_right _ hj
    rw [Nat.add_mul, Nat.one_mul] at h2
    have := hr j x hx
    rw [List.drop_append_of_le_length (by omega), List.take_append_of_le_length (by rw [List.length_drop]; omega), List.drop_take, List.take_take, Nat.min_eq_left (by omega)]
    exact this
  · rw [List.getElem?_append_right (by omega), hlt] at hx
    by_cases hj2 : j = i
    · subst hj2
      rw [Nat.sub_self] at hx
      simp at hx
      subst hx
      rw [List.drop_append, List.drop_of_length_le (by omega), List.nil_append, hlc, Nat.sub_self, List.drop_zero, List.take_append_of_le_length (by omega), List.take_of_length_le (by omega)]
      exact hy
    · obtain ⟨q, rfl⟩ : ∃ q, j = i + (q + 1) := ⟨j - i - 1, by omega⟩
      rw [show i + (q + 1) - i = q + 1 by omega, List.getElem?_cons_succ, List.getElem?_drop] at hx
      have := hr _ x hx
      have h3 : (i + (q + 1)) * size = i * size + (size + q * size) := by rw [Nat.add_mul, Nat.add_mul, Nat.one_mul]; omega
      rw [h3, List.drop_append, List.drop_of_length_le (by omega), List.nil_append, hlc, Nat.add_sub_cancel_left, List.drop_append, List.drop_of_length_le (by omega), List.nil_append, hvs, Nat.add_sub_cancel_left, List.drop_drop]
      rwa [← Nat.add_mul]
end
end Go.Proofs.Ytdgcfgiedclmcaa
