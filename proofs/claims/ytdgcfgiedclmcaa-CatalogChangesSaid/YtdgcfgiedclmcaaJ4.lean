/- The round of CatalogChanges: three rows of the call's own, a block beside them, one appended to. -/
import Derived.Test.YtdgcfgiedclmcaaJ3
namespace Go.Proofs.Ytdgcfgiedclmcaa
open Go.RowKit

theorem cells7 {w : World} {b : Nat} {v0 v1 v2 v3 v4 v5 v6 : Value} {t : TypeId} (h : w.heap[b]? = some (.cells #[v0, v1, v2, v3, v4, v5, v6] t (0, 0))) :
    w.cell? ⟨b, 0, none⟩ = some v0 ∧ w.cell? ⟨b, 1, none⟩ = some v1 ∧ w.cell? ⟨b, 2, none⟩ = some v2 ∧ w.cell? ⟨b, 3, none⟩ = some v3 ∧ w.cell? ⟨b, 4, none⟩ = some v4 ∧ w.cell? ⟨b, 5, none⟩ = some v5 ∧ w.cell? ⟨b, 6, none⟩ = some v6 := by
  simp [World.cell?, h]

/-- the state of a round: the rows, the element in block q, the new one in block fl -/
structure St (w3 w : World) (B fl q : Nat) (xs ys : Array Value) (a b c : Value) (la lb lc : List Space) : Prop where
  t : Three w B fl a b c la lb lc
  d : Below B w3 w
  x : w.heap[q]? = some (.cells xs 77 (0, 0))
  y : w.heap[fl]? = some (.cells ys 77 (0, 0))
  na : ∀ g, a.ownBlock = some g → g ≠ q
  nb : ∀ g, b.ownBlock = some g → g ≠ q
  nc : ∀ g, c.ownBlock = some g → g ≠ q
section
variable {w3 w w' : World} {B fl q : Nat} {xs ys : Array Value} {a b c v : Value} {la lb lc l' : List Space}
theorem St.rot (h : St w3 w B fl q xs ys a b c la lb lc) : St w3 w B fl q xs ys b c a lb lc la := ⟨h.t.rot, h.d, h.x, h.y, h.nb, h.nc, h.na⟩
theorem St.app (h : St w3 w B fl q xs ys a b c la lb lc) (hf : fl < B) (hB : B ≤ w3.heap.size) (row : Array Value)
    (ho : Own Enc.space 77 w' B (fun k => k < fl ∨ (k < fl ∧ k < (w.alloc (.cells row 77)).heap.size)) v l') (hg : (w.alloc (.cells row 77)).grownBy w' a.ownBlock) (hat : v.ownBlock = a.ownBlock ∨ v.ownBlock = some (w.alloc (.cells row 77)).heap.size) :
    St w3 w' B fl q xs ys v b c l' lb lc := by
  have hal : Below w.heap.size w (w.alloc (.cells row 77)) := (Below.refl _ w).alloc (Nat.le_refl _) _
  have hs := h.d.size
  have hs1 : (w.alloc (.cells row 77)).heap.size = w.heap.size + 1 := by simp
  have hq : q < w.heap.size := (Array.getElem?_eq_some_iff.1 h.x).1
  have hy : fl < w.heap.size := (Array.getElem?_eq_some_iff.1 h.y).1
  refine ⟨(h.t.all hal).step (by omega) ho hg hat (by omega), (h.d.trans (hal.mono (by omega))).grown hg (by omega) (fun g hg' => (h.t.oa.blk hg').1), ?_, ?_, fun g hgv => ?_, h.nb, h.nc⟩
  · exact (hg.block q (by omega) (fun e => h.na q e.symm rfl)).trans ((hal.block q hq).trans h.x)
  · exact (hg.block fl (by omega) (fun e => by have := (h.t.oa.blk e.symm).1; omega)).trans ((hal.block fl hy).trans h.y)
  · rcases hat with e | e
    · exact h.na g (e ▸ hgv)
    · rw [e] at hgv; cases hgv; omega
end
theorem filter_succ {α : Type} {p : α → Bool} {l : List α} {k : Nat} (hk : k < l.length) : (l.take (k + 1)).filter p = (l.take k).filter p ++ (if p l[k] then [l[k]] else []) := by
  rw [List.take_succ_eq_append_getElem hk, List.filter_append]
  cases hp : p l[k] <;> simp [hp]
theorem wTo_len (l : List Space) (y : Space) : ∀ k, (wTo l y k).2.length ≤ k + 1 ∧ ((wTo l y k).1 = false → (wTo l y k).2.length ≤ k)
  | 0 => by simp [wTo]
  | k + 1 => by
    have h := wTo_len l y k
    unfold wTo
    split
    · rename_i hc
      have := h.2 hc.1
      simp; omega
    · simp
      exact ⟨h.1, h.2⟩
theorem Sl.ofBlk {α : Type} {e : Enc α} {w : World} {F G : Nat → Prop} {vb : Nat} {vs : List Value} {y : α} {t : TypeId} {fr : Nat × Nat} (hv : w.heap[vb]? = some (.cells vs.toArray t fr)) (hr : e.rel w G vs y) (hF : F vb) (hG : ∀ k, G k → F k) : Sl e w F (some ⟨vb, 0, none⟩) 1 1 [y] := by
  refine ⟨rfl, by omega, ⟨by omega, fun h => by cases h⟩, fun i x hx => ?_⟩
  match i, hx with
  | 0, hx =>
    simp at hx
    subst hx
    refine ⟨_, vs, rfl, hF, e.keep hr (.weaken w fun b hb _ => hG b hb), fun j u hu => ?_⟩
    rw [Nat.zero_mul, Nat.zero_add, add_plain]
    simp [World.cell?, hv, hu]
end Go.Proofs.Ytdgcfgiedclmcaa
