/- Footprints told by element types. -/
import Derived.Test.YtdgcfgiedclmcaaB
namespace Go.Proofs.Ytdgcfgiedclmcaa
open Go.RowKit

/-- blocks of cells whose element type is one of ts -/
def OfT (w : World) (ts : List TypeId) (b : Nat) : Prop := ∃ cs t fr, w.heap[b]? = some (.cells cs t fr) ∧ t ∈ ts
theorem OfT.lt {w : World} {ts : List TypeId} {b : Nat} (h : OfT w ts b) : b < w.heap.size := by obtain ⟨_, _, _, h, _⟩ := h; exact (Array.getElem?_eq_some_iff.1 h).1
theorem OfT.keep {w w' : World} {ts : List TypeId} {b : Nat} (h : OfT w ts b) (he : w'.heap[b]? = w.heap[b]?) : OfT w' ts b := by obtain ⟨cs, t, fr, h, ht⟩ := h; exact ⟨cs, t, fr, he.trans h, ht⟩
theorem Own.typed {α : Type} {e : Enc α} {E : TypeId} {w : World} {base : Nat} {F : Nat → Prop} {v : Value} {xs : List α} (h : Own e E w base F v xs) {g : Nat} (hg : v.ownBlock = some g) : ∃ cs, w.heap[g]? = some (.cells cs E (0, 0)) := by
  obtain ⟨cells, ho, _⟩ := h
  rcases ho.2 with ⟨rfl, _⟩ | ⟨g', cap, cur, rfl, _, hh, _⟩
  · cases hg
  · have : g' = g := by simpa [Value.ownBlock] using hg
    subst this; exact ⟨cur, hh⟩
theorem Own.retype {α : Type} {e : Enc α} {E : TypeId} {w : World} {base : Nat} {F : Nat → Prop} {v : Value} {xs : List α} (h : Own e E w base F v xs) {ts : List TypeId} (hE : E ∉ ts) (hF : ∀ b, F b → Bc w b → OfT w ts b) : Own e E w base (OfT w ts) v xs := by
  have ht := fun g hg => h.typed (g := g) hg
  obtain ⟨cells, ho, hr, _, _⟩ := h
  refine ⟨cells, ho, fun i x hx => e.keep (hr i x hx) fun b hb hl => ⟨rfl, hF b hb hl⟩, fun g hg hb => ?_, fun b hb => hb.lt⟩
  obtain ⟨cs, hcs⟩ := ht g hg
  obtain ⟨_, _, _, h1, h2⟩ := hb
  rw [hcs] at h1
  cases h1
  exact hE h2
/-- rows that the call made: what they lead to is told by types -/
theorem Own.slT {E E' : TypeId} {w : World} {base : Nat} {F : Nat → Prop} {v : Value} {xs : List (List Int)} (h : Own (Enc.obytes E) E' w base F v xs) : ∃ A c, v = .slice A xs.length c ∧ Sl Enc.bytes w (OfT w [E', E]) A xs.length c xs := by
  have hty := fun g hg => h.typed (g := g) hg
  have h1 : Own (Enc.obytes E) E' w base (fun b => F b ∧ OfT w [E', E] b) v xs := by
    obtain ⟨cells, ho, hr, hn, hl⟩ := h
    refine ⟨cells, ho, fun i x hx => ?_, fun g hg hb => hn g hg hb.1, fun b hb => hl b hb.1⟩
    obtain ⟨u, hu, hou, hF⟩ := hr i x hx
    refine ⟨u, hu, hou, fun g hg => ⟨hF g hg, ?_⟩⟩
    obtain ⟨cs, hcs⟩ := hou.typed hg
    exact ⟨cs, _, _, hcs, by simp⟩
  obtain ⟨A, c, rfl, hs⟩ := h1.sl (F' := OfT w [E', E]) (fun b hb => hb.2) (fun g hg => by obtain ⟨cs, hcs⟩ := hty g hg; exact ⟨cs, _, _, hcs, by simp⟩)
  exact ⟨A, c, rfl, hs.as (e' := Enc.bytes) rfl rfl (fun _ h => h) fun i x y hx hy vs hv => by
    have exy : some x = some y := hx.symm.trans hy
    injection exy with exy; subst exy; exact Enc.obytes_bytes hv⟩

/-- old blocks, and those of some types -/
def OfN (n₀ : Nat) (w : World) (ts : List TypeId) (b : Nat) : Prop := b < n₀ ∨ OfT w ts b
theorem OfN.keep {n₀ : Nat} {w w' : World} {ts : List TypeId} {b : Nat} (h : OfN n₀ w ts b) (he : w'.heap[b]? = w.heap[b]?) : OfN n₀ w' ts b := h.imp id fun h => h.keep he
theorem Own.retypeN {α : Type} {e : Enc α} {E : TypeId} {w : World} {base n₀ : Nat} {F : Nat → Prop} {v : Value} {xs : List α} (h : Own e E w base F v xs) {ts : List TypeId} (hE : E ∉ ts) (hb : n₀ ≤ base) (hn : n₀ ≤ w.heap.size) (hF : ∀ b, F b → Bc w b → OfN n₀ w ts b) : Own e E w base (OfN n₀ w ts) v xs := by
  have ht := fun g hg => h.typed (g := g) hg
  have hbk := fun g hg => h.blk (g := g) hg
  obtain ⟨cells, ho, hr, _, _⟩ := h
  refine ⟨cells, ho, fun i x hx => e.keep (hr i x hx) fun b hb hl => ⟨rfl, hF b hb hl⟩, fun g hg hb' => ?_, fun b hb' => ?_⟩
  · rcases hb' with hb' | hb'
    · have := (hbk g hg).1; omega
    · obtain ⟨cs, hcs⟩ := ht g hg
      obtain ⟨_, _, _, h1, h2⟩ := hb'
      rw [hcs] at h1
      cases h1
      exact hE h2
  · rcases hb' with hb' | hb'
    · omega
    · exact hb'.lt
end Go.Proofs.Ytdgcfgiedclmcaa
