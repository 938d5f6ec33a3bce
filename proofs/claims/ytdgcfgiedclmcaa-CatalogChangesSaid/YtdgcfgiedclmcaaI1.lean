/- Contract: slices.Insert of one space. -/
import Derived.Test.YtdgcfgiedclmcaaH8
import Derived.Test.YtdgcfgiedclmcaaH9
import Derived.Laws.Externs
import Derived.Shelf.Spec.SlicesInsert
namespace Go.Proofs.Ytdgcfgiedclmcaa
open Go.RowKit

theorem Sr.ofBlk {α : Type} {e : Enc α} {w : World} {G : Nat → Prop} {vb : Nat} {vs : List Value} {y : α} {t : TypeId} {fr : Nat × Nat} (hv : w.heap[vb]? = some (.cells vs.toArray t fr)) (hr : e.rel w G vs y) : Sr e w G (some ⟨vb, 0, none⟩) 1 1 [y] := by
  refine ⟨rfl, by omega, ⟨by omega, fun h => by cases h⟩, fun i x hx => ?_⟩
  match i, hx with
  | 0, hx =>
    simp at hx
    subst hx
    refine ⟨_, vs, rfl, hr, fun j u hu => ?_⟩
    rw [Nat.zero_mul, Nat.zero_add, add_plain]
    simp [World.cell?, hv, hu]

section
variable {w : World} {F G : Nat → Prop} {A : Option Addr} {n c base vb : Nat}
set_option maxRecDepth 100000 in
set_option maxHeartbeats 1000000 in
theorem insert_end {xs : List Space} {y : Space} {vs : List Value} {fr : Nat × Nat} (h : Own Enc.space 77 w base F (.slice A n c) xs) (hb : base ≤ w.heap.size) (hn : n ≤ 100) (hv : w.heap[vb]? = some (.cells vs.toArray 77 fr)) (hy : Enc.space.rel w G vs y)
    (hG : ∀ g, (Value.slice A n c).ownBlock = some g → ¬ G g) :
    Calls Try.prog 91 #[.slice A n c, .int .i64 n, .slice (some ⟨vb, 0, none⟩) 1 1] w fun e w' => ∃ v, e = .returned v ∧ Own Enc.space 77 w' base (fun b => F b ∨ (G b ∧ b < w.heap.size)) v (xs.take n ++ y :: xs.drop n) ∧ w.grownBy w' (Value.slice A n c).ownBlock := by
  have hln := h.len
  obtain ⟨A', c', e', hnc, ⟨hcm, -⟩, -⟩ := h.form
  rw [hln] at e' hnc
  cases e'
  have HX : Hid (xs.take n ++ y :: xs.drop n = xs ++ [y]) := Lib.hid (by rw [List.take_of_length_le (by omega), List.drop_of_length_le (by omega)])
  have HO := Lib.hid h
  have HS := Lib.hid (Sr.ofBlk (e := Enc.space) hv hy)
  have HG := Lib.hid hG
  have hlb : xs.length ≤ 100 := by omega
  clear h hv hy hG hln
  have key : ∀ r, xs ++ [y] = r → Calls Try.prog 91 #[.slice A n c, .int .i64 n, .slice (some ⟨vb, 0, none⟩) 1 1] w fun e w' => ∃ v, e = .returned v ∧ Own Enc.space 77 w' base (fun b => F b ∨ (G b ∧ b < w.heap.size)) v r ∧ w.grownBy w' (Value.slice A n c).ownBlock := by
    intro r hr
    have HR := Lib.hid hr
    clear hr HX
    rcases Nat.eq_or_lt_of_le hnc with rfl | hlt
    all_goals
      go_enter Try.func91, Try.ntmps91
      go_wp2_with (at_builtin; refine wpl_app (e := Enc.space) (E := 77) (base := base) rfl _ _ 72 rfl Try.underlying72 Try.infoSpace rfl rfl rfl HO.out HS.out HG.out hb (by omega) (by omega) ?_; intro v1 w1 ho hg hat _)
      all_goals
        go_ret
        exact ⟨_, rfl, by rw [← HR.out]; exact ho, hg⟩
  rw [HX.out]
  exact key _ rfl
end
end Go.Proofs.Ytdgcfgiedclmcaa
