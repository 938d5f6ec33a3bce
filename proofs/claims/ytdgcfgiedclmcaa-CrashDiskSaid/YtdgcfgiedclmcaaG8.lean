/- The walk of the law CrashDisk. -/
import Derived.Test.YtdgcfgiedclmcaaG7
import Derived.Test.YtdgcfgiedclmcaaE2
namespace Go.Proofs.Ytdgcfgiedclmcaa
open Go.RowKit

theorem Own.fr {α : Type} {e : Enc α} {E : TypeId} {w w' : World} {base n₀ p g : Nat} {D : DiskS} {v : Value} {xs : List α} (h : Own e E w base (FT n₀ w) v xs) (hd : DiskAt w n₀ p g D) (hf : Fr (DC n₀ p g) w w')
    (hE : E ∉ [5, 4]) (hE2 : E ≠ 118) (hp : p < base) (hg : g < base) (hn : n₀ ≤ base) : Own e E w' base (FT n₀ w') v xs := by
  have hF : ∀ b, FT n₀ w b → w'.heap[b]? = w.heap[b]? := fun b hb => hf.block b (hb.lt hd.n0) (hb.not_DC hd.notP hd.notG)
  have h1 := h.keep hf.size (F := FT n₀ w) (fun b hb _ => ⟨hF b hb, hb⟩) fun j hj => by
    have hb := h.blk hj
    refine hf.block j hb.2 ?_
    rintro (e | e | ⟨_, cs, fr, e⟩)
    · omega
    · omega
    · obtain ⟨cs', hcs⟩ := h.typed hj
      rw [hcs] at e
      have h1 := Option.some.inj e
      injection h1 with _ h2
      exact hE2 h2
  exact h1.retypeN hE hn (by have := hf.size; have := hd.n0; omega) fun b hb _ => OfN.keep hb (hF b hb)
theorem Own.fall {α : Type} {e : Enc α} {E : TypeId} {w w' : World} {base n₀ : Nat} {v : Value} {xs : List α} (h : Own e E w base (FT n₀ w) v xs) (hb : Below w.heap.size w w') (hE : E ∉ [5, 4]) (hn : n₀ ≤ base) (hn' : n₀ ≤ w.heap.size) : Own e E w' base (FT n₀ w') v xs :=
  (h.all hb).retypeN hE hn (by have := hb.size; omega) fun b hj _ => OfN.keep hj (hb.block b (FT.lt hn' hj))
theorem Fr.old {n₀ p g : Nat} {w w' : World} (h : Fr (DC n₀ p g) w w') (hp : n₀ ≤ p) (hg : n₀ ≤ g) (hn : n₀ ≤ w.heap.size) : Below n₀ w w' := h.below hn fun j o hj => by
  rintro (e | e | ⟨h, _⟩) <;> omega

/-- a disk as the law has it: six sectors of 32 bytes, on, no fuse -/
structure Six (D : DiskS) : Prop where
  len : D.kept.length = 6
  size : D.size = 32
  on : D.off = false
  fuse : D.fuse = 0
theorem Six.write {D : DiskS} (h : Six D) (s : Int) (b : List Int) : Six (writeD D s b) ∧ (writeD D s b).kept = D.kept ∧ (writeE D s b = 0 → (writeD D s b).waits = D.waits ++ [(s, b)] ∧ 0 ≤ s ∧ s < 6 ∧ b.length = 32) ∧ (writeD D s b).waits.length ≤ D.waits.length + 1 := by
  have hst : stepD D = { D with fuse := max (D.fuse - 1) 0, steps := wrap64 (D.steps + 1) } := by simp [stepD, h.fuse]
  have hse : stepE D = 0 := by simp [stepE, h.fuse]
  by_cases hm : mayD D s = 0
  · obtain ⟨-, h0, h1⟩ := mayD_ok hm
    rw [h.len] at h1
    by_cases hl : (b.length : Int) = D.size
    · have he : writeE D s b = 0 := by simp [writeE, hm, hl, hse]
      have hd : writeD D s b = { stepD D with waits := D.waits ++ [(s, b)] } := by simp [writeD, he]
      rw [hd, hst]
      have hl' := h.size
      exact ⟨⟨h.len, h.size, h.on, by simp [h.fuse]; rfl⟩, rfl, fun _ => ⟨rfl, h0, by omega, by omega⟩, by simp⟩
    · have he : writeE D s b = 2 := by simp [writeE, hm, hl]
      have hd : writeD D s b = D := by simp [writeD, he, hl]
      rw [hd, he]
      exact ⟨h, rfl, fun e => (by cases e), by omega⟩
  · have he : writeE D s b = mayD D s := by simp [writeE, hm]
    have hd : writeD D s b = D := by simp [writeD, he, hm]
    rw [hd, he]
    exact ⟨h, rfl, fun e => absurd e hm, by omega⟩
theorem Six.flush {D : DiskS} (h : Six D) : flushE D = 0 ∧ Six (flushD D) ∧ (flushD D).waits = [] := by
  have hst : stepD D = { D with fuse := max (D.fuse - 1) 0, steps := wrap64 (D.steps + 1) } := by simp [stepD, h.fuse]
  have hse : stepE D = 0 := by simp [stepE, h.fuse]
  have hd : flushD D = settleD (fun _ => true) (stepD D) := by simp [flushD, h.on, h.fuse]
  refine ⟨by simp [flushE, h.on, hse], ?_, by rw [hd]; rfl⟩
  rw [hd, hst]
  exact ⟨(doneTo_length _ _ _ _).trans h.len, h.size, h.on, by simp [settleD, h.fuse]; rfl⟩
theorem seenD_nil {D : DiskS} (h : D.waits = []) : seenD D = D.kept := by simp [seenD, h, doneTo]
theorem Six.read {D : DiskS} (h : Six D) (hw : D.waits = []) {i : Nat} (hi : i < 6) : mayD D i = 0 ∧ readB D i = D.kept.getD i [] := by
  have hm : mayD D i = 0 := by
    unfold mayD
    rw [h.on, h.len, if_neg (by decide), if_neg (by omega)]
  exact ⟨hm, by simp [readB, hm, seenD_nil hw]⟩
end Go.Proofs.Ytdgcfgiedclmcaa
