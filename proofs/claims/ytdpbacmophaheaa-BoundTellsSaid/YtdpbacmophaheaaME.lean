/- api.Geom as an argument; the walk of BoundTells over its row's arguments. -/
import Derived.Test.YtdpbacmophaheaaMDM
import Derived.Test.YtdpbacmophaheaaP
import Derived.Test.YtdpbacmophaheaaO2
namespace Go.Proofs.Ytdpbacmophaheaa
open Go.RowKit Go.ChangeShapes Go.WideShapes Go.ChangeAt

def Enc.geom : Enc (Int × Int × Int × Int) where
  size := 4
  rel _ _ vs x := vs = [.int .i64 x.1, .int .i64 x.2.1, .int .i64 x.2.2.1, .int .i64 x.2.2.2]
  pos := by omega
  len h := by rw [h]; rfl
  one h u hu := by
    rw [h] at hu
    simp at hu
    rcases hu with rfl | rfl | rfl | rfl <;> rfl
  keep h _ := h
set_option maxRecDepth 10000 in
theorem op_geom : Opens Try.prog 48 Enc.geom := by
  intro H enc W spare held fuel cs x h
  obtain ⟨hl, hf⟩ := opens_cells Try.underlying48 (by
    intro i f hf
    have hi := (Array.getElem?_eq_some_iff.1 hf).1
    simp at hi
    match i, hi with
    | 0, _ => cases hf; exact ⟨rfl, by kernel_rfl⟩
    | 1, _ => cases hf; exact ⟨rfl, by kernel_rfl⟩
    | 2, _ => cases hf; exact ⟨rfl, by kernel_rfl⟩
    | 3, _ => cases hf; exact ⟨rfl, by kernel_rfl⟩) (by kernel_rfl) h
  match cs, hl with
  | [c0, c1, c2, c3], _ =>
    obtain ⟨n0, y0, t0⟩ := hf 0 _ c0 rfl rfl
    obtain ⟨n1, y1, t1⟩ := hf 1 _ c1 rfl rfl
    obtain ⟨n2, y2, t2⟩ := hf 2 _ c2 rfl rfl
    obtain ⟨n3, y3, t3⟩ := hf 3 _ c3 rfl rfl
    obtain ⟨a0, e0, w0⟩ := op_int H enc W spare held n0 _ _ t0
    obtain ⟨a1, e1, w1⟩ := op_int H enc W spare held n1 _ _ t1
    obtain ⟨a2, e2, w2⟩ := op_int H enc W spare held n2 _ _ t2
    obtain ⟨a3, e3, w3⟩ := op_int H enc W spare held n3 _ _ t3
    cases e0; cases e1; cases e2; cases e3
    exact ⟨(a0, a1, a2, a3), rfl⟩
theorem op_ints : Opens Try.prog 105 (Enc.slice Enc.i64) := opens_slice Try.underlying105 (by kernel_rfl) op_int
theorem geom_args {w : World} {F : Nat → Prop} {cs : Array Value} {x : Int × Int × Int × Int} (h : Enc.geom.rel w F cs.toList x) : cs = #[.int .i64 x.1, .int .i64 x.2.1, .int .i64 x.2.2.1, .int .i64 x.2.2.2] := by
  apply Array.ext'
  exact h

set_option maxRecDepth 100000 in
set_option maxHeartbeats 1000000 in
theorem tells_walk {w : World} {F G : Nat → Prop} {A : Option Addr} {n c : Nat} {cs : Array Value} {x : Int × Int × Int × Int} {l : List Int} (hx : Enc.geom.rel w F cs.toList x) (k : Int) (_ : (Lit.int .i64 k).wf = true) (h : Sl Enc.i64 w G A n c l) :
    Calls Try.prog 12 #[.agg cs, .int .i64 k, .slice A n c] w fun e w' => e = .returned (.bool true) ∧ Below w.heap.size w w' := by
  rw [geom_args hx]
  by_cases hn : n ≤ 100
  · exact tells_main h hn
  · have hd100 : decide ((100 : Int) < (n : Int)) = true := by simp; omega
    clear h hx
    go_enter Try.func12, Try.ntmps12
    go_wp2_with fail
    refine (awake41 _).mono ?_
    rintro e w1 ⟨rfl, hb1⟩
    go_wp2
    go_ret
    exact ⟨rfl, ((Below.refl _ _).alloc (Nat.le_refl _) _).trans (hb1.mono (by simp))⟩
end Go.Proofs.Ytdpbacmophaheaa
