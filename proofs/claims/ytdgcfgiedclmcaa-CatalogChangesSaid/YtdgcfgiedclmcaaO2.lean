/- Readings of slices of which only the length is told, of structs whose fields are one cell each. -/
import Derived.Test.YtdgcfgiedclmcaaO
namespace Go.Proofs.Ytdgcfgiedclmcaa
open Go.RowKit Go.ChangeShapes Go.WideShapes Go.ChangeAt

theorem opens_raw {P : Program} {t E : TypeId} (ht : P.underlying t = some (.slice E)) : Opens P t Enc.raw := by
  intro H enc W spare held fuel cs x h
  rcases Go.Deep.open_slice ht h with ⟨rfl, _⟩ | ⟨a, len, cap, m, n, D, Pl, rfl, _, hl, hm, hmm, _, hx⟩
  · exact ⟨0, none, 0, rfl, by omega⟩
  · exact ⟨len, some a, cap, rfl, by have : cap ≤ 9223372036854775807 := by simpa [maxLen] using hm
                                     omega⟩
/-- a struct whose fields are one cell each -/
theorem opens_cells {P : Program} {t : TypeId} {fs : Array Field} (ht : P.underlying t = some (.struct fs)) (ho : ∀ (i : Nat) (f : Field), fs[i]? = some f → f.offset = i ∧ P.cellsOf f.type = 1) (hc : P.cellsOf t = fs.size)
    {H : Type} {enc : TypeId × Value → H} {W : World} {spare : Nat → Bool} {held : Bool} {fuel : Nat} {cs : List Value} {x : DataW H × List MemPlace} (h : DataW.trod enc P W 0 spare held fuel t cs = some x) :
    cs.length = fs.size ∧ ∀ (i : Nat) (f : Field) (u : Value), fs[i]? = some f → cs[i]? = some u → ∃ n y, DataW.trod enc P W 0 spare held n f.type [u] = some y := by
  obtain ⟨xs, n, _, _, hlen, hxl, hx⟩ := DataW.trod_struct ht h
  refine ⟨by rw [hlen, hc], fun i f u hf hu => ?_⟩
  have a0 := hx i f hf
  have hi := (Array.getElem?_eq_some_iff.1 hf).1
  rw [List.getElem?_eq_getElem (by rw [hxl]; simpa using hi)] at a0
  obtain ⟨h1, h2⟩ := ho i f hf
  rw [h1, h2] at a0
  have hiu := List.getElem?_eq_some_iff.1 hu
  rw [List.drop_eq_getElem_cons hiu.1, hiu.2] at a0
  exact ⟨n, _, a0⟩

end Go.Proofs.Ytdgcfgiedclmcaa
