/- A region that draws its order, whose operations read, and whose callees leave what lies below the top: one walk in the order of the text. -/
import Derived.Test.YtdgcfgiedclmcaaB
import Derived.Deep.QuietTactic
namespace Go
theorem wp_region_quietC {P : Program} {id : Nat} {Q : Exit → Act → World → Prop} {a : Act} {w : World} {l : List Oper} (C : World → Prop) (hm : P.follows .mixedOrders = true) (hB : Region.lexB .any l.toArray = true) (hC : C { w with drawn := w.drawn + 1 })
    (h : wpQuiet P l.toArray C (fun a' => ∀ w', C w' → Q .normal a' w') l a) : (Code.region id l.toArray true).wp P Q a w :=
  wp_region_quiet hm hB hC (by simpa using h)
macro "quiet_stepC " "(" tac:tacticSeq ")" : tactic => `(tactic|
  (refine wpQuiet_step (fun K hK => ?_)
   go_simp
   first
     | (refine hK _ ?_; clear hK K)
     | (refine ⟨_, fun _ _ => rfl, hK _ ?_⟩; clear hK K)
     | (apply Exists.intro
        refine ⟨?_, hK _ ?_⟩
        ($tac:tacticSeq)
        clear hK K)))
/-- the class: all that lies below the top stays -/
macro "go_quietC " w:term ", " "(" tac:tacticSeq ")" : tactic => `(tactic|
  (refine wp_region_quietC (fun W => Go.RowKit.Below (World.heap $w).size $w W) (by kernel_rfl) (by kernel_rfl) (Go.Proofs.Ytdgcfgiedclmcaa.below_of_drewN $w 1) ?_
   repeat (quiet_stepC ($tac:tacticSeq))
   refine wpQuiet_nil ?_))
end Go
