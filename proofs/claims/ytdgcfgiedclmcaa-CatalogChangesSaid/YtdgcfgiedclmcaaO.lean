/- From a row's reading of its arguments to Enc. -/
import Derived.Test.YtdgcfgiedclmcaaB
namespace Go.Proofs.Ytdgcfgiedclmcaa
open Go.RowKit Go.ChangeShapes Go.WideShapes Go.ChangeAt

/-- every reading of the type t is one of e -/
def Opens {α : Type} (P : Program) (t : TypeId) (e : Enc α) : Prop :=
  ∀ (H : Type) (enc : TypeId × Value → H) (W : World) (spare : Nat → Bool) (held : Bool) (fuel : Nat) (cs : List Value) (x : DataW H × List MemPlace),
    DataW.trod enc P W 0 spare held fuel t cs = some x → ∃ a, e.rel W (fun b => b < W.heap.size) cs a

theorem opens_int {P : Program} {t : TypeId} {k : IntKind} (ht : P.underlying t = some (.int k)) : Opens P t (Enc.int k) := by
  intro H enc W spare held fuel cs x h
  obtain ⟨n, rfl, _, hw⟩ := DataW.trod_int ht h
  exact ⟨n, rfl, hw⟩
theorem opens_bool {P : Program} {t : TypeId} (ht : P.underlying t = some .bool) : Opens P t Enc.bool := by
  intro H enc W spare held fuel cs x h
  obtain ⟨b, rfl, _⟩ := DataW.trod_bool ht h
  exact ⟨b, rfl⟩
theorem opens_slice {α : Type} {P : Program} {t E : TypeId} {e : Enc α} (ht : P.underlying t = some (.slice E)) (hc : P.cellsOf E = e.size) (he : Opens P E e) : Opens P t (Enc.slice e) := by
  intro H enc W spare held fuel cs x h
  rcases Go.Deep.open_slice ht h with ⟨rfl, _⟩ | ⟨a, len, cap, m, n, D, Pl, rfl, _, hl, hm, hmm, _, hx⟩
  · exact ⟨[], none, 0, 0, rfl, Sl.nil _ _ _⟩
  · have hlm : len ≤ m := by rw [hmm]; split <;> omega
    have key : ∀ k, k ≤ len → ∃ xs : List α, xs.length = k ∧ ∀ (i : Nat) (y : α), xs[i]? = some y → ∃ cs, e.rel W (fun b => b < W.heap.size) cs y ∧ ∀ j u, cs[j]? = some u → W.cell? (a.add (i * e.size + j)) = some u := by
      intro k
      induction k with
      | zero => exact fun _ => ⟨[], rfl, fun i y hy => by simp at hy⟩
      | succ k ih =>
        intro hk
        obtain ⟨xs, hxl, hxs⟩ := ih (by omega)
        obtain ⟨cs', h1, h2⟩ := hx k (by omega)
        obtain ⟨y, hy⟩ := he H enc W spare held n cs' _ h2
        obtain ⟨_, hlen, hcell⟩ := World.cells?_some h1
        refine ⟨xs ++ [y], by simp [hxl], fun i z hz => ?_⟩
        rcases Nat.lt_or_ge i k with hik | hik
        · rw [List.getElem?_append_left (by omega)] at hz
          exact hxs i z hz
        · have hi : i = k := by
            have := (List.getElem?_eq_some_iff.1 hz).1
            simp at this; omega
          subst hi
          rw [List.getElem?_append_right (by omega), hxl, Nat.sub_self] at hz
          simp at hz
          subst hz
          refine ⟨cs', hy, fun j u hu => ?_⟩
          have hj := (List.getElem?_eq_some_iff.1 hu).1
          have := hcell j (by omega)
          rw [add_add', hc] at this
          rw [this, hu]
    obtain ⟨xs, hxl, hxs⟩ := key len (Nat.le_refl _)
    refine ⟨xs, some a, len, cap, rfl, hxl.symm, hl, ⟨by simpa [maxLen] using hm, fun h => by cases h⟩, fun i y hy => ?_⟩
    obtain ⟨cs, hr, hcell⟩ := hxs i y hy
    have hlen := e.len hr
    have hpos := e.pos
    have hb := World.block_lt_of_cell? W _ (hcell 0 _ (List.getElem?_eq_getElem (by omega)))
    rw [add_block] at hb
    exact ⟨a, cs, rfl, hb, hr, hcell⟩
theorem opens_pair {α β : Type} {P : Program} {t : TypeId} {f0 f1 : Field} {e : Enc α} {f : Enc β} (ht : P.underlying t = some (.struct #[f0, f1])) (h0 : f0.offset = 0) (hc0 : P.cellsOf f0.type = e.size) (h1 : f1.offset = e.size) (hc1 : P.cellsOf f1.type = f.size)
    (hc : P.cellsOf t = e.size + f.size) (he : Opens P f0.type e) (hf : Opens P f1.type f) : Opens P t (Enc.pair e f) := by
  intro H enc W spare held fuel cs x h
  obtain ⟨xs, n, _, _, hlen, hxl, hx⟩ := DataW.trod_struct ht h
  have a0 := hx 0 f0 rfl
  have a1 := hx 1 f1 rfl
  rw [List.getElem?_eq_getElem (by rw [hxl]; simp)] at a0 a1
  obtain ⟨u, hu⟩ := he H enc W spare held n _ _ a0
  obtain ⟨v, hv⟩ := hf H enc W spare held n _ _ a1
  rw [h0, hc0, List.drop_zero] at hu
  rw [h1, hc1] at hv
  refine ⟨(u, v), _, _, ?_, hu, hv⟩
  rw [List.take_of_length_le (l := cs.drop e.size) (by rw [List.length_drop]; omega), List.take_append_drop]

/-- an argument's value -/
theorem Opens.sl {α H : Type} {P : Program} {t : TypeId} {e : Enc α} (h : Opens P t (Enc.slice e)) {enc : TypeId × Value → H} {W : World} {spare : Nat → Bool} {held : Bool} {A : Option Addr} {n c : Nat} {d : DataW H} {p : List MemPlace}
    (hT : DataW.Trod enc P W 0 spare held t (.slice A n c) d p) : ∃ xs, Sl e W (fun b => b < W.heap.size) A n c xs := by
  obtain ⟨fuel, hf⟩ := hT
  obtain ⟨xs, A', n', c', he, hs⟩ := h H enc W spare held fuel _ _ hf
  simp [Value.cells] at he
  obtain ⟨rfl, rfl, rfl⟩ := he
  exact ⟨xs, hs⟩
theorem Opens.ag {α H : Type} {P : Program} {t : TypeId} {e : Enc α} (h : Opens P t e) {enc : TypeId × Value → H} {W : World} {spare : Nat → Bool} {held : Bool} {cs : Array Value} {d : DataW H} {p : List MemPlace}
    (hT : DataW.Trod enc P W 0 spare held t (.agg cs) d p) : ∃ x, e.rel W (fun b => b < W.heap.size) cs.toList x := by
  obtain ⟨fuel, hf⟩ := hT
  exact h H enc W spare held fuel _ _ hf
end Go.Proofs.Ytdgcfgiedclmcaa
