/- A disk in memory: what it is, what may turn while it works, how it is kept. -/
import Derived.Test.YtdgcfgiedclmcaaT
import Derived.Test.YtdgcfgiedclmcaaF3
import Derived.Test.YtdgcfgiedclmcaaC6
import Derived.Test.YtdgcfgiedclmcaaC3
import Derived.Deep.OwnRows
namespace Go.Proofs.Ytdgcfgiedclmcaa
open Go.RowKit

/-! ### frames: of the old blocks only those of a class may turn -/
structure Fr (C : Nat → Option Obj → Prop) (w w' : World) : Prop where
  os : w'.os = w.os
  tape : w'.tape = w.tape
  output : w'.output = w.output
  size : w.heap.size ≤ w'.heap.size
  block : ∀ b, b < w.heap.size → ¬ C b w.heap[b]? → w'.heap[b]? = w.heap[b]?
theorem Fr.refl (C : Nat → Option Obj → Prop) (w : World) : Fr C w w := ⟨rfl, rfl, rfl, Nat.le_refl _, fun _ _ _ => rfl⟩
theorem Fr.trans {C : Nat → Option Obj → Prop} {a b c : World} (h : Fr C a b) (k : Fr C b c) : Fr C a c :=
  ⟨k.os.trans h.os, k.tape.trans h.tape, k.output.trans h.output, Nat.le_trans h.size k.size, fun j hj hC => by
    have h1 := h.block j hj hC
    exact (k.block j (Nat.lt_of_lt_of_le hj h.size) (by rw [h1]; exact hC)).trans h1⟩
theorem Fr.of_below {C : Nat → Option Obj → Prop} {a b : World} (h : Below a.heap.size a b) : Fr C a b := ⟨h.os, h.tape, h.output, h.size, fun j hj _ => h.block j hj⟩
theorem Fr.of_dr {C : Nat → Option Obj → Prop} {a b : World} (h : Dr a b) : Fr C a b := .of_below h.below
theorem Fr.alloc {C : Nat → Option Obj → Prop} {a b : World} (h : Fr C a b) (o : Obj) : Fr C a (b.alloc o) := h.trans (.of_below ((Below.refl _ b).alloc (Nat.le_refl _) o))
theorem Fr.setCell {C : Nat → Option Obj → Prop} {a b : World} (h : Fr C a b) {p : Addr} (hp : ∀ o, C p.block o) (u : Value) : Fr C a (b.setCell p u) :=
  h.trans ⟨rfl, rfl, rfl, by simp [World.setCell], fun j _ hC => Below.heap_setCell _ _ _ _ (fun e => hC (e ▸ hp _))⟩
theorem Fr.below {C : Nat → Option Obj → Prop} {n₀ : Nat} {a b : World} (h : Fr C a b) (hn : n₀ ≤ a.heap.size) (hC : ∀ j o, j < n₀ → ¬ C j o) : Below n₀ a b :=
  ⟨h.os, h.tape, h.output, h.size, fun j hj => h.block j (by omega) (hC j _ hj)⟩
theorem Fr.mono {C C' : Nat → Option Obj → Prop} {a b : World} (h : Fr C a b) (hC : ∀ j o, C j o → C' j o) : Fr C' a b :=
  ⟨h.os, h.tape, h.output, h.size, fun j hj hn => h.block j hj fun hc => hn (hC _ _ hc)⟩
theorem Fr.keepF {C : Nat → Option Obj → Prop} {a b : World} (h : Fr C a b) {F : Nat → Prop} (hF : ∀ j, F j → ¬ C j a.heap[j]?) : KeepF a b F F := fun j hj hl => ⟨h.block j hl.lt (hF j hj), hj⟩

/-! ### a disk -/
structure DiskS where
  kept : List (List Int)
  size : Int
  waits : List Entry
  off : Bool
  fuse : Int
  keep : List Bool
  steps : Int

/-- what a disk's data lead to -/
def FT (n₀ : Nat) (w : World) : Nat → Prop := OfN n₀ w [5, 4]
/-- what may turn while the disk at block p, its row at block g, is at work -/
def DC (n₀ p g : Nat) (b : Nat) (o : Option Obj) : Prop := b = p ∨ b = g ∨ (n₀ ≤ b ∧ ∃ cs fr, o = some (.cells cs 118 fr))

structure DiskAt (w : World) (n₀ p g : Nat) (D : DiskS) : Prop where
  np : n₀ ≤ p
  ng : n₀ ≤ g
  pos : 0 < D.kept.length
  most : D.kept.length ≤ 1048576
  cells : ∃ vw A n c, w.heap[p]? = some (.cells #[.slice (some ⟨g, 0, none⟩) D.kept.length D.kept.length, .int .i64 D.size, vw, .bool D.off, .int .i64 D.fuse, .slice A n c, .int .i64 D.steps] 114 (0, 0)) ∧
    Own Enc.entry 118 w n₀ (FT n₀ w) vw D.waits ∧ Sl Enc.bool w (FT n₀ w) A n c D.keep
  row : Own Enc.bytes 38 w n₀ (FT n₀ w) (.slice (some ⟨g, 0, none⟩) D.kept.length D.kept.length) D.kept
  fits : ∀ x ∈ D.waits, 0 ≤ x.1 ∧ x.1 < D.kept.length
  fuse : 0 ≤ D.fuse ∧ D.fuse ≤ 1099511627777
  short : (∀ x ∈ D.kept, x.length ≤ 4096) ∧ ∀ x ∈ D.waits, x.2.length ≤ 4096

theorem FT.of_data {n₀ : Nat} {w : World} {b : Nat} (h : b < n₀) : FT n₀ w b := .inl h
theorem FT.lt {n₀ : Nat} {w : World} {b : Nat} (hn : n₀ ≤ w.heap.size) (h : FT n₀ w b) : b < w.heap.size := by
  rcases h with h | h
  · omega
  · exact h.lt
/-- a block's type tells that data do not lead there -/
theorem FT.not {n₀ : Nat} {w : World} {b : Nat} {cs : Array Value} {t : TypeId} {fr : Nat × Nat} (hn : n₀ ≤ b) (h : w.heap[b]? = some (.cells cs t fr)) (ht : t ∉ [5, 4]) : ¬ FT n₀ w b := by
  rintro (hb | ⟨cs', t', fr', h', ht'⟩)
  · omega
  · rw [h] at h'; cases h'; exact ht ht'
theorem FT.not_DC {n₀ p g : Nat} {w : World} {b : Nat} (hb : FT n₀ w b) (hp : ¬ FT n₀ w p) (hg : ¬ FT n₀ w g) : ¬ DC n₀ p g b w.heap[b]? := by
  rintro (rfl | rfl | ⟨hn, cs, fr, h⟩)
  · exact hp hb
  · exact hg hb
  · exact FT.not hn h (by decide) hb

section
variable {w w' : World} {n₀ p g : Nat} {D : DiskS}
theorem DiskAt.notP (h : DiskAt w n₀ p g D) : ¬ FT n₀ w p := by
  obtain ⟨vw, A, n, c, hc, _⟩ := h.cells
  exact FT.not h.np hc (by decide)
theorem DiskAt.gblk (h : DiskAt w n₀ p g D) : ∃ cs, w.heap[g]? = some (.cells cs 38 (0, 0)) := h.row.typed (g := g) rfl
theorem DiskAt.notG (h : DiskAt w n₀ p g D) : ¬ FT n₀ w g := h.row.not g rfl
theorem DiskAt.ne (h : DiskAt w n₀ p g D) : p ≠ g := by
  rintro rfl
  obtain ⟨vw, A, n, c, hc, _⟩ := h.cells
  obtain ⟨cs, hg⟩ := h.gblk
  rw [hc] at hg
  have h1 := Option.some.inj hg
  injection h1 with _ h2
  exact absurd h2 (by decide)
theorem DiskAt.plt (h : DiskAt w n₀ p g D) : p < w.heap.size := by
  obtain ⟨vw, A, n, c, hc, _⟩ := h.cells
  exact (Array.getElem?_eq_some_iff.1 hc).1
theorem DiskAt.glt (h : DiskAt w n₀ p g D) : g < w.heap.size := (h.row.blk rfl).2
theorem DiskAt.n0 (h : DiskAt w n₀ p g D) : n₀ ≤ w.heap.size := by have := h.plt; have := h.np; omega
theorem DiskAt.data (h : DiskAt w n₀ p g D) (hf : Fr (DC n₀ p g) w w') : KeepF w w' (FT n₀ w) (FT n₀ w') := fun b hb hl => by
  have h1 := hf.block b hl.lt (hb.not_DC h.notP h.notG)
  exact ⟨h1, OfN.keep hb h1⟩
theorem DiskAt.keep (h : DiskAt w n₀ p g D) (hs : w.heap.size ≤ w'.heap.size) (hk : ∀ b, b < w.heap.size → (b = p ∨ b = g ∨ b < n₀ ∨ OfT w [5, 4, 118] b) → w'.heap[b]? = w.heap[b]?) : DiskAt w' n₀ p g D := by
  have hn := h.n0
  have hp := h.plt
  have hg := h.glt
  have hF : ∀ b, FT n₀ w b → w'.heap[b]? = w.heap[b]? := fun b hb => hk b (hb.lt hn) (by
    rcases hb with hb | ⟨cs, t, fr, h1, h2⟩
    · exact .inr (.inr (.inl hb))
    · refine .inr (.inr (.inr ⟨cs, t, fr, h1, ?_⟩))
      simp at h2 ⊢
      rcases h2 with h2 | h2 <;> simp [h2])
  have hK : KeepF w w' (FT n₀ w) (FT n₀ w') := fun b hb _ => ⟨hF b hb, OfN.keep hb (hF b hb)⟩
  have hK0 : KeepF w w' (FT n₀ w) (FT n₀ w) := fun b hb _ => ⟨hF b hb, hb⟩
  obtain ⟨vw, A, n, c, hc, ho, hsl⟩ := h.cells
  refine ⟨h.np, h.ng, h.pos, h.most, ⟨vw, A, n, c, (hk p hp (.inl rfl)).trans hc, ?_, hsl.keep hK⟩, ?_, h.fits, h.fuse, h.short⟩
  · have h1 := ho.keep hs hK0 fun b hb => by
      obtain ⟨cs, hcs⟩ := ho.typed hb
      exact hk b (ho.blk hb).2 (.inr (.inr (.inr ⟨cs, _, _, hcs, by decide⟩)))
    exact h1.retypeN (by decide) (Nat.le_refl _) (by omega) fun b hb _ => OfN.keep hb (hF b hb)
  · have h1 := h.row.keep hs hK0 fun b hb => by
      cases hb
      exact hk g hg (.inr (.inl rfl))
    exact h1.retypeN (by decide) (Nat.le_refl _) (by omega) fun b hb _ => OfN.keep hb (hF b hb)
theorem DiskAt.all (h : DiskAt w n₀ p g D) (hb : Below w.heap.size w w') : DiskAt w' n₀ p g D := h.keep hb.size fun b hl _ => hb.block b hl
theorem DiskAt.dr (h : DiskAt w n₀ p g D) (hb : Dr w w') : DiskAt w' n₀ p g D := h.all hb.below
theorem DiskAt.alloc (h : DiskAt w n₀ p g D) (o : Obj) : DiskAt (w.alloc o) n₀ p g D := h.all ((Below.refl _ w).alloc (Nat.le_refl _) o)
/-- the disk's own cells, as the walk asks for them -/
theorem DiskAt.fields (h : DiskAt w n₀ p g D) : ∃ vw A n c, w.heap[p]? = some (.cells #[.slice (some ⟨g, 0, none⟩) D.kept.length D.kept.length, .int .i64 D.size, vw, .bool D.off, .int .i64 D.fuse, .slice A n c, .int .i64 D.steps] 114 (0, 0)) ∧
    (w.cell? ⟨p, 0, none⟩ = some (.slice (some ⟨g, 0, none⟩) D.kept.length D.kept.length) ∧ w.cell? ⟨p, 1, none⟩ = some (.int .i64 D.size) ∧ w.cell? ⟨p, 2, none⟩ = some vw ∧ w.cell? ⟨p, 3, none⟩ = some (.bool D.off) ∧
      w.cell? ⟨p, 4, none⟩ = some (.int .i64 D.fuse) ∧ w.cell? ⟨p, 5, none⟩ = some (.slice A n c) ∧ w.cell? ⟨p, 6, none⟩ = some (.int .i64 D.steps)) ∧
    (∀ j, w.frozen? ⟨p, j, none⟩ = false) ∧ Own Enc.entry 118 w n₀ (FT n₀ w) vw D.waits ∧ Sl Enc.bool w (FT n₀ w) A n c D.keep := by
  obtain ⟨vw, A, n, c, hc, ho, hs⟩ := h.cells
  refine ⟨vw, A, n, c, hc, ?_, fun j => ?_, ho, hs⟩
  · refine ⟨?_, ?_, ?_, ?_, ?_, ?_, ?_⟩ <;> simp [World.cell?, hc]
  · simp [World.frozen?, hc]
/-- a store into one of the disk's own cells -/
theorem blk_setCell {w : World} {p j : Nat} {cs : Array Value} {t : TypeId} {fr : Nat × Nat} (h : w.heap[p]? = some (.cells cs t fr)) (u : Value) : (w.setCell ⟨p, j, none⟩ u).heap[p]? = some (.cells (cs.setIfInBounds j u) t fr) := by
  simp [World.setCell, Array.getElem?_modify, h]
end
end Go.Proofs.Ytdgcfgiedclmcaa
