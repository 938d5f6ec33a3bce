/- A range over a function whose values lie in memory: what the iterator hands over can be read when the round begins. -/
import Derived.RangeFuncFrom
import Derived.RangeFuncBound
import Derived.RangeFuncCalls
import Derived.RangeFuncLeaves
import Derived.OwnWalkIn
import Derived.Test.YtdpbacmophaheaaB
namespace Go.Proofs.Ytdpbacmophaheaa
open Go.RowKit

/-- What lay below n₀ lies as it lay, but for block x. -/
structure Bx (n₀ x : Nat) (w w' : World) : Prop where
  size : w.heap.size ≤ w'.heap.size
  block : ∀ k, k < n₀ → k ≠ x → w'.heap[k]? = w.heap[k]?
theorem Bx.refl (n₀ x : Nat) (w : World) : Bx n₀ x w w := ⟨Nat.le_refl _, fun _ _ _ => rfl⟩
theorem Bx.trans {n₀ x : Nat} {a b c : World} (h : Bx n₀ x a b) (k : Bx n₀ x b c) : Bx n₀ x a c := ⟨Nat.le_trans h.size k.size, fun i hi hx => (k.block i hi hx).trans (h.block i hi hx)⟩
theorem Bx.of_below {n₀ x B : Nat} {a b : World} (h : Below B a b) (hB : n₀ ≤ B) : Bx n₀ x a b := ⟨h.size, fun i hi _ => h.block i (Nat.lt_of_lt_of_le hi hB)⟩
theorem Bx.setCell {n₀ : Nat} (a : World) (p : Addr) (u : Value) : Bx n₀ p.block a (a.setCell p u) := ⟨by simp [World.setCell], fun i _ hx => Below.heap_setCell a p u i hx⟩
theorem Bx.putObj {n₀ x : Nat} (a : World) {l : Nat} (o : Obj) (hl : n₀ ≤ l) : Bx n₀ x a (a.putObj l o) := ⟨by simp [World.putObj], fun i hi _ => World.putObj_heap_other (by omega)⟩
theorem Bx.grown {n₀ x : Nat} {a b : World} {row : Option Nat} (h : a.grownBy b row) (hn : n₀ ≤ a.heap.size) (hr : ∀ g, row = some g → n₀ ≤ g) : Bx n₀ x a b :=
  ⟨h.size, fun i hi _ => h.block i (by omega) (fun e => by have := hr i e.symm; omega)⟩
theorem Bx.cell {n₀ x : Nat} {a b : World} (h : Bx n₀ x a b) {p : Addr} (hp : p.block < n₀) (hx : p.block ≠ x) : b.cell? p = a.cell? p := World.cell?_of_block (h.block _ hp hx)
theorem KeepF.bx {n₀ x : Nat} {a b : World} (h : Bx n₀ x a b) {F : Nat → Prop} (hF : ∀ k, F k → k < n₀ ∧ k ≠ x) : KeepF a b F F := fun k hk _ => ⟨h.block k (hF k hk).1 (hF k hk).2, hk⟩

/-- An iterator's contract: every value that it hands over meets R in the world in which its round begins; a round keeps what lay below n₀. -/
def SeqMem {α : Type} (F : Fence) (n : Nat) (P : Program) (g : Nat) (lb : Array Value) (enc : α → Value) (n₀ bx : Nat) (R : List α → α → World → Prop) (S : List α → Prop) (w : World) : Prop :=
  ∀ (l : Nat) (J : List α → World → Prop) (W : World), Below w.heap.size w W → (∀ s A B, J s A → Below A.heap.size A B → J s B) →
    (∀ pre x W1, J pre W1 → R pre x W1 → YieldAt F (n - 1) P l #[enc x] W1 fun e W' => e = .returned (.bool true) ∧ J (pre ++ [x]) W' ∧ Bx n₀ bx W1 W') →
    J [] W → CallsIn F n P g (#[.func (.yield l) #[] #[]] ++ lb) W fun e W' => (∃ v, e = .returned v) ∧ ∃ xs, S xs ∧ J xs W'

/-- how a round's body ends: it goes on -/
def goesOn (n₀ bx : Nat) (I : World → Prop) (W : World) : Exit → Act → World → Prop
  | .normal, _, W' => KeepsOthers W W' ∧ Bx n₀ bx W W' ∧ I W'
  | _, _, _ => False

variable {F : Fence} {n : Nat} {P : Program}
theorem wpIn_range_mem {α : Type} {g : Operand} {p : Tmp} {assign body : Code} {Q : Exit → Act → World → Prop} {a : Act} {w : World}
    (hro : F.round = none) (h1 : 1 ≤ n) {gf : Nat} {lb : Array Value} (hg : a.eval g = .func (.func gf) #[] lb) (hFg : F.fn gf) (eg : ∀ args w, (callFunc gf args).run P w = .ok (.enter gf args) w)
    {enc : α → Value} {n₀ bx : Nat} {R : List α → α → World → Prop} {S : List α → Prop} (hseq : SeqMem F (n - 1) P gf lb enc n₀ bx R S w) (hn₀ : n₀ ≤ w.heap.size)
    (I : List α → World → Prop) (hIb : ∀ s A B, I s A → Below A.heap.size A B → I s B)
    (hIo : ∀ s W l o o', I s W → w.heap.size ≤ l → W.heap[l]? = some o → o.isCells = false → I s (W.putObj l o')) (h0 : I [] w) (a₁ : World → α → Act) (grow : α → World → World)
    (hgrow : ∀ x W, Below W.heap.size W (grow x W))
    (hassign : ∀ (l : Nat) (pre : List α) (x : α) (W : World) (K : Act → World → Prop), I pre W → R pre x W → K (a₁ W x) (grow x W) →
      assign.wpIn (F.inRound l) (n - 1 - 1) P (Exit.then K (fun _ _ _ => False)) { tmps := a.tmps.setIfInBounds p (enc x), defers := [] } W)
    (hbody : ∀ (l : Nat) (pre : List α) (x : α) (W : World) (o o' : Obj), I pre W → R pre x W → W.heap[l]? = some o → o.isCells = false → o'.isCells = false → w.heap.size ≤ l →
      body.wpIn (F.inRound l) (n - 1 - 1) P (goesOn n₀ bx (I (pre ++ [x])) ((grow x W).putObj l o')) (a₁ W x) ((grow x W).putObj l o'))
    (hdone : ∀ (D : Nat) (xs : List α) (W : World), w.heap.size ≤ D → S xs → I xs W → W.heap[D]? = some (.deferred (some [])) → Q .normal { a with defers := { target := .collected D, args := #[] } :: a.defers } W) :
    (Code.rangeFunc g #[p] assign body).wpIn F n P Q a w := by
  refine wpIn_rangeFunc fun fn hfn => ?_
  rw [hro]
  -- the loop's record, in each of its states
  let rec_ : LoopState → Obj := fun st => .loop { state := st, pending := none, fn := fn, tmps := a.tmps, params := #[p], assign := assign, body := body, defers := w.heap.size }
  have hnc : ∀ st, (rec_ st).isCells = false := fun _ => rfl
  let W1 := (w.alloc (.deferred (some []))).alloc (rec_ .ready)
  have hW1 : Below w.heap.size w W1 := ((Below.refl _ w).alloc (Nat.le_refl _) _).alloc (by simp) _
  have hl1 : W1.heap[w.heap.size + 1]? = some (rec_ .ready) := by
    have := World.alloc_heap_new (w.alloc (.deferred (some []))) (rec_ .ready)
    rwa [World.size_alloc] at this
  have hd1 : W1.heap[w.heap.size]? = some (.deferred (some [])) := (Below.heap_alloc _ _ _ (by simp)).trans (World.alloc_heap_new w _)
  refine ⟨w.heap.size + 1, [{ target := .collected w.heap.size, args := #[] }], W1, { target := .fn (.func gf) lb, args := #[.func (.yield (w.heap.size + 1)) #[] #[]] }, W1, gf,
    #[.func (.yield (w.heap.size + 1)) #[] #[]] ++ lb, W1, run_enterLoop_outer _ _ _ _ _, ?_, ?_, ?_, fun _ => h1, ?_⟩
  · simp only [resolve, hg]
    simp [go_sem]
  · intro f' hf'
    simp [Target.leads] at hf'
    subst hf'
    exact hFg
  · simp [invoke, go_sem, eg]
  · refine (hseq (w.heap.size + 1) (fun pre W => I pre W ∧ W.heap[w.heap.size + 1]? = some (rec_ .ready) ∧ W.heap[w.heap.size]? = some (.deferred (some []))) W1 hW1
      (fun s A B hs hb => ⟨hIb s A B hs.1 hb, (hb.block _ (Array.getElem?_eq_some_iff.1 hs.2.1).1).trans hs.2.1, (hb.block _ (Array.getElem?_eq_some_iff.1 hs.2.2).1).trans hs.2.2⟩) ?_ ⟨hIb _ _ _ h0 hW1, hl1, hd1⟩).mono ?_
    · -- a round
      rintro pre x W ⟨hi, hl, hk⟩ hR
      refine ⟨fn, a.tmps.setIfInBounds p (enc x), assign, body, ?_, roundIn_of_wpIn hfn (hassign _ pre x W _ hi hR ?_)⟩
      · have := run_yield (P := P) (args := #[enc x]) hl rfl
        simpa [rec_] using this
      · have hlt := (Array.getElem?_eq_some_iff.1 hl).1
        have hb := hgrow x W
        have hlg : (grow x W).heap[w.heap.size + 1]? = some (rec_ .ready) := (hb.block _ hlt).trans hl
        have hkg : (grow x W).heap[w.heap.size]? = some (.deferred (some [])) := (hb.block _ (Array.getElem?_eq_some_iff.1 hk).1).trans hk
        have hlg' := (Array.getElem?_eq_some_iff.1 hlg).1
        refine ⟨(grow x W).putObj (w.heap.size + 1) (rec_ .busy), run_beginRound hlg rfl, ?_⟩
        refine wpIn_mono (hbody _ pre x W _ (rec_ .busy) hi hR hl (hnc _) (hnc _) (by omega)) ?_
        rintro e a3 W3 hp
        cases e with
        | normal =>
          obtain ⟨hk3, hb3, hi3⟩ := hp
          have hl3 : W3.heap[w.heap.size + 1]? = some (rec_ .busy) := hk3.same _ _ (World.putObj_heap_same hlg') (hnc _)
          have hd3 : W3.heap[w.heap.size]? = some (.deferred (some [])) := hk3.same _ _ ((World.putObj_heap_other (by omega)).trans hkg) rfl
          refine ⟨.bool true, W3.putObj (w.heap.size + 1) (rec_ .ready), run_endRound (P := P) none hl3, rfl, ⟨hIo _ _ _ _ _ hi3 (by omega) hl3 (hnc _), ?_, ?_⟩, ?_⟩
          · exact World.putObj_heap_same (Array.getElem?_eq_some_iff.1 hl3).1
          · exact (World.putObj_heap_other (by omega)).trans hd3
          · have hsz := hb.size
            exact (((Bx.of_below hb (by omega)).trans (.putObj _ _ (by omega))).trans hb3).trans (.putObj _ _ (by omega))
        | ret => exact hp.elim
        | exit id => exact hp.elim
        | goto t => exact hp.elim
        | panic ch => exact hp.elim
        | outgrown => exact hp.elim
    · rintro e W2 ⟨⟨v, rfl⟩, xs, hS, hi, hl, hk⟩
      refine ⟨none, _, run_endLoop (P := P) hl (by simp), hdone w.heap.size xs _ (Nat.le_refl _) hS (hIo _ _ _ _ _ hi (by omega) hl (hnc _)) ?_⟩
      exact (World.putObj_heap_other (by omega)).trans hk
/-- append at the operation, within a fence: 'gi_at_builtin; refine wplIn_app ..' -/
theorem wplIn_app {α : Type} {e : Enc α} {E : TypeId} {w : World} {base : Nat} {F' G : Nat → Prop} {v : Value} {xs ys : List α} {A : Option Addr} {m c : Nat}
    {ops : Array Oper} {rest : List Oper} {o : Oper} {a : Act} {Q : Exit → Act → World → Prop} (hgd : o.guard = none) (so xo : Operand) (t : TypeId)
    (ho : o.op = .call { callee := .builtin .append, args := #[so, xo], argTypes := #[t, t] })
    {z : Value} {bytes : Nat} (hu : P.underlying t = some (.slice E)) (hinfo : (P.info? E).map (fun i => (i.zero, i.size, i.bytes)) = some (some z, e.size, bytes)) (hz : z.cells.size = e.size)
    (hs : a.eval so = v) (hx : a.eval xo = .slice A m c)
    (h : Own e E w base F' v xs) (s : Sr e w G A m c ys) (hG : ∀ g, v.ownBlock = some g → ¬ G g) (hb : base ≤ w.heap.size) (hby : 0 < bytes) (hlen : (xs.length + m) * bytes ≤ 140737488355328)
    (hK : ∀ v1 w1, Own e E w1 base (fun b => F' b ∨ (G b ∧ b < w.heap.size)) v1 (xs ++ ys) → w.grownBy w1 v.ownBlock → (v1.ownBlock = v.ownBlock ∨ v1.ownBlock = some w.heap.size) → (v1 = .slice none 0 0 ↔ v = .slice none 0 0 ∧ m = 0) →
      wpListIn F n P ops Q rest (a.put o.dst v1) w1) :
    wpListIn F n P ops Q (o :: rest) a w := by
  refine wpListIn_plain hgd fun K hK' => ?_
  obtain ⟨v1, w1, hr, h2, h3, h4, h5⟩ := run_app (P := P) (ty := o.type) hu hinfo hz h s hG hb hby hlen
  unfold Oper.wpIn
  refine ⟨?_, ?_⟩
  · simp [Oper.about, ho, resolve, Target.leads, Sem.run_pure]
  · rw [Oper.semAt_plain F _ _ (by rw [ho]; intro c hc'; cases hc')]
    simp [execOp, ho, resolve, invoke, builtin, hs, hx, hr, Result.andThen]
    exact hK' _ _ (hK v1 w1 h2 h3 h4 h5)
end Go.Proofs.Ytdpbacmophaheaa
