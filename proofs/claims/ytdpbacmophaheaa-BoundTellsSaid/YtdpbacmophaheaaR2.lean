/- A range over a function that hands over two values. -/
import Derived.Test.YtdpbacmophaheaaR
namespace Go.Proofs.Ytdpbacmophaheaa
open Go.RowKit

/-- An iterator's contract: every value that it hands over meets R in the world in which its round begins; a round keeps what lay below n₀. -/
def SeqMem2 {α : Type} (F : Fence) (n : Nat) (P : Program) (g : Nat) (lb : Array Value) (e1 e2 : α → Value) (n₀ bx : Nat) (R : List α → α → World → Prop) (S : List α → Prop) (w : World) : Prop :=
  ∀ (l : Nat) (J : List α → World → Prop) (W : World), Below w.heap.size w W → (∀ s A B, J s A → Below A.heap.size A B → J s B) →
    (∀ pre x W1, J pre W1 → R pre x W1 → YieldAt F (n - 1) P l #[e1 x, e2 x] W1 fun e W' => e = .returned (.bool true) ∧ J (pre ++ [x]) W' ∧ Bx n₀ bx W1 W') →
    J [] W → CallsIn F n P g (#[.func (.yield l) #[] #[]] ++ lb) W fun e W' => (∃ v, e = .returned v) ∧ ∃ xs, S xs ∧ J xs W'

variable {F : Fence} {n : Nat} {P : Program}
theorem wpIn_range_mem2 {α : Type} {g : Operand} {p q : Tmp} {assign body : Code} {Q : Exit → Act → World → Prop} {a : Act} {w : World}
    (hro : F.round = none) (h1 : 1 ≤ n) {gf : Nat} {lb : Array Value} (hg : a.eval g = .func (.func gf) #[] lb) (hFg : F.fn gf) (eg : ∀ args w, (callFunc gf args).run P w = .ok (.enter gf args) w)
    {e1 e2 : α → Value} {n₀ bx : Nat} {R : List α → α → World → Prop} {S : List α → Prop} (hseq : SeqMem2 F (n - 1) P gf lb e1 e2 n₀ bx R S w) (hn₀ : n₀ ≤ w.heap.size)
    (I : List α → World → Prop) (hIb : ∀ s A B, I s A → Below A.heap.size A B → I s B)
    (hIo : ∀ s W l o o', I s W → w.heap.size ≤ l → W.heap[l]? = some o → o.isCells = false → I s (W.putObj l o')) (h0 : I [] w) (a₁ : World → α → Act) (grow : α → World → World)
    (hgrow : ∀ x W, Below W.heap.size W (grow x W))
    (hassign : ∀ (l : Nat) (pre : List α) (x : α) (W : World) (K : Act → World → Prop), I pre W → R pre x W → K (a₁ W x) (grow x W) →
      assign.wpIn (F.inRound l) (n - 1 - 1) P (Exit.then K (fun _ _ _ => False)) { tmps := (a.tmps.setIfInBounds p (e1 x)).setIfInBounds q (e2 x), defers := [] } W)
    (hbody : ∀ (l : Nat) (pre : List α) (x : α) (W : World) (o o' : Obj), I pre W → R pre x W → W.heap[l]? = some o → o.isCells = false → o'.isCells = false → w.heap.size ≤ l →
      body.wpIn (F.inRound l) (n - 1 - 1) P (goesOn n₀ bx (I (pre ++ [x])) ((grow x W).putObj l o')) (a₁ W x) ((grow x W).putObj l o'))
    (hdone : ∀ (D : Nat) (xs : List α) (W : World), w.heap.size ≤ D → S xs → I xs W → W.heap[D]? = some (.deferred (some [])) → Q .normal { a with defers := { target := .collected D, args := #[] } :: a.defers } W) :
    (Code.rangeFunc g #[p, q] assign body).wpIn F n P Q a w := by
  refine wpIn_rangeFunc fun fn hfn => ?_
  rw [hro]
  -- the loop's record, in each of its states
  let rec_ : LoopState → Obj := fun st => .loop { state := st, pending := none, fn := fn, tmps := a.tmps, params := #[p, q], assign := assign, body := body, defers := w.heap.size }
  have hnc : ∀ st, (rec_ st).isCells = false := fun _ => rfl
  let W1 := (w.alloc (.deferred (some []))).alloc (rec_ .ready)
  have hW1 : Below w.heap.size w W1 := ((Below.refl _ w).alloc (Nat.le_refl _) _).alloc (by simp) _
  have hl1 : W1.heap[w.heap.size + 1]? = some (rec_ .ready) := by
    have := World.alloc_heap_new (w.alloc (.deferred (some []))) (rec_ .ready)
    rwa [World.size_alloc] at this
  have hd1 : W1.heap[w.heap.size]? = some (.deferred (some [])) := (Below.heap_alloc _ _ _ (by simp)).trans (World.alloc_heap_new w _)
  refine ⟨w.heap.size + 1, [{ target := .collected w.heap.size, args := #[] }], W1, { target := .fn (.func gf) lb, args := #[.func (.yield (w.heap.size + 1)) #[] #[]] }, W1, gf,
    #[.func (.yield (w.heap.size + 1)) #[] #[]] ++ lb, W1, run_enterLoop_outer _ _ _ _ _, ?_, ?_, ?_, fun _ => h1, ?_⟩
  · simp only [resolve, hg]
    simp [go_sem]
  · intro f' hf'
    simp [Target.leads] at hf'
    subst hf'
    exact hFg
  · simp [invoke, go_sem, eg]
  · refine (hseq (w.heap.size + 1) (fun pre W => I pre W ∧ W.heap[w.heap.size + 1]? = some (rec_ .ready) ∧ W.heap[w.heap.size]? = some (.deferred (some []))) W1 hW1
      (fun s A B hs hb => ⟨hIb s A B hs.1 hb, (hb.block _ (Array.getElem?_eq_some_iff.1 hs.2.1).1).trans hs.2.1, (hb.block _ (Array.getElem?_eq_some_iff.1 hs.2.2).1).trans hs.2.2⟩) ?_ ⟨hIb _ _ _ h0 hW1, hl1, hd1⟩).mono ?_
    · -- a round
      rintro pre x W ⟨hi, hl, hk⟩ hR
      refine ⟨fn, (a.tmps.setIfInBounds p (e1 x)).setIfInBounds q (e2 x), assign, body, ?_, roundIn_of_wpIn hfn (hassign _ pre x W _ hi hR ?_)⟩
      · have := run_yield (P := P) (args := #[e1 x, e2 x]) hl rfl
        simpa [rec_] using this
      · have hlt := (Array.getElem?_eq_some_iff.1 hl).1
        have hb := hgrow x W
        have hlg : (grow x W).heap[w.heap.size + 1]? = some (rec_ .ready) := (hb.block _ hlt).trans hl
        have hkg : (grow x W).heap[w.heap.size]? = some (.deferred (some [])) := (hb.block _ (Array.getElem?_eq_some_iff.1 hk).1).trans hk
        have hlg' := (Array.getElem?_eq_some_iff.1 hlg).1
        refine ⟨(grow x W).putObj (w.heap.size + 1) (rec_ .busy), run_beginRound hlg rfl, ?_⟩
        refine wpIn_mono (hbody _ pre x W _ (rec_ .busy) hi hR hl (hnc _) (hnc _) (by omega)) ?_
        rintro e a3 W3 hp
        cases e with
        | normal =>
          obtain ⟨hk3, hb3, hi3⟩ := hp
          have hl3 : W3.heap[w.heap.size + 1]? = some (rec_ .busy) := hk3.same _ _ (World.putObj_heap_same hlg') (hnc _)
          have hd3 : W3.heap[w.heap.size]? = some (.deferred (some [])) := hk3.same _ _ ((World.putObj_heap_other (by omega)).trans hkg) rfl
          refine ⟨.bool true, W3.putObj (w.heap.size + 1) (rec_ .ready), run_endRound (P := P) none hl3, rfl, ⟨hIo _ _ _ _ _ hi3 (by omega) hl3 (hnc _), ?_, ?_⟩, ?_⟩
          · exact World.putObj_heap_same (Array.getElem?_eq_some_iff.1 hl3).1
          · exact (World.putObj_heap_other (by omega)).trans hd3
          · have hsz := hb.size
            exact (((Bx.of_below hb (by omega)).trans (.putObj _ _ (by omega))).trans hb3).trans (.putObj _ _ (by omega))
        | ret => exact hp.elim
        | exit id => exact hp.elim
        | goto t => exact hp.elim
        | panic ch => exact hp.elim
        | outgrown => exact hp.elim
    · rintro e W2 ⟨⟨v, rfl⟩, xs, hS, hi, hl, hk⟩
      refine ⟨none, _, run_endLoop (P := P) hl (by simp), hdone w.heap.size xs _ (Nat.le_refl _) hS (hIo _ _ _ _ _ hi (by omega) hl (hnc _)) ?_⟩
      exact (World.putObj_heap_other (by omega)).trans hk
end Go.Proofs.Ytdpbacmophaheaa
