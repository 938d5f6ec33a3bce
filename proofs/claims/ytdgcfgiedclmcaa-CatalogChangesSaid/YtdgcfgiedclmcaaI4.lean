/- Contract: slices.Insert of one space, all ways; catalog.Of. -/
import Derived.Test.YtdgcfgiedclmcaaI3
namespace Go.Proofs.Ytdgcfgiedclmcaa
open Go.RowKit

section
variable {w : World} {F G : Nat → Prop} {i base vb : Nat}
theorem insert_spaces {xs : List Space} {y : Space} {vs : List Value} {v : Value} (h : Own Enc.space 77 w base F v xs) (hi : i ≤ xs.length) (hb : base ≤ w.heap.size) (hn : xs.length ≤ 100) (hv : w.heap[vb]? = some (.cells vs.toArray 77)) (hy : Enc.space.rel w G vs y)
    (hG : ∀ g, v.ownBlock = some g → ¬ G g ∧ vb ≠ g) :
    Calls Try.prog 91 #[v, .int .i64 i, .slice (some ⟨vb, 0, none⟩) 1 1] w fun e w' => ∃ v', e = .returned v' ∧ Own Enc.space 77 w' base (fun b => F b ∨ (G b ∧ b < w.heap.size)) v' (xs.take i ++ y :: xs.drop i) ∧ w.grownBy w' v.ownBlock := by
  obtain ⟨A, c, rfl, hc, -, hA⟩ := h.form
  rcases Nat.eq_or_lt_of_le hi with rfl | hlt
  · exact insert_end h hb hn hv hy fun g hg => (hG g hg).1
  · obtain ⟨g, rfl, -⟩ := hA (by omega)
    rcases Nat.eq_or_lt_of_le hc with hc | hc
    · rw [← hc] at h ⊢
      exact insert_grow h hlt hb hn hv hy
    · exact insert_room h hlt hc hn hv hy (hG g rfl).1 (hG g rfl).2
end

section
variable {w : World} {F : Nat → Prop} {A : Option Addr} {n c b : Nat}
theorem of_pred {g : Nat} {i : Int} (hc : w.cell? ⟨b, 0, none⟩ = some (.int .i64 i)) (hbg : b ≠ g) : PredT w g 89 #[.pointer (some ⟨b, 0, none⟩)] (fun x => x.tenant != i) := by
  refine ⟨enters_of Try.func89 (by kernel_rfl) rfl, fun W x vs F hb hr => ?_⟩
  obtain ⟨Ar, nr, cr, Ae, ce, At, ct, As, cs, rfl, -⟩ := hr
  have hc' := (hb.cell (p := ⟨b, 0, none⟩) (World.block_lt_of_cell? w _ hc) hbg).trans hc
  have hbl : b < W.heap.size := World.block_lt_of_cell? W _ hc'
  clear hc hb
  obtain ⟨x0, x1, x2, x3, x4, x5, x6⟩ := x
  dsimp only
  go_enter Try.func89, Try.ntmps89
  go_wp2
  go_ret
  exact ⟨rfl, (Below.refl _ _).alloc (Nat.le_refl _) _⟩

theorem delete_nil {W : World} {f : FuncId} {lb : Array Value} {p : Space → Bool} (hp : PredT W W.heap.size f lb p) :
    Calls Try.prog 87 #[.slice none 0 0, .func (.func f) #[] lb] W fun e w' => e = .returned (.slice none 0 0) ∧ Below W.heap.size W w' := by
  have HI := Lib.hid (index_spaces (w := W) (F := fun _ => False) (A := none) (n := 0) (c := 0) (ws := []) ⟨rfl, by omega, ⟨by omega, fun _ => rfl⟩, fun i x h => by simp at h⟩ (hp.predS _))
  clear hp
  go_enter Try.func87, Try.ntmps87
  go_wp2_with fail
  refine HI.out.mono ?_
  rintro e w1 ⟨rfl, hd1⟩
  go_wp2
  go_ret
  exact ⟨rfl, hd1⟩

theorem _root_.Go.Proofs.Ytdgcfgiedclmcaa.Own.parts {α : Type} {e : Enc α} {E : TypeId} {w : World} {base : Nat} {F : Nat → Prop} {v : Value} {xs : List α} (h : Own e E w base F v xs) : (v = .slice none 0 0 ∧ xs = []) ∨ ∃ g c, v = .slice (some ⟨g, 0, none⟩) xs.length c ∧ base ≤ g ∧ g < w.heap.size ∧ xs.length ≤ c ∧ c ≤ 9223372036854775807 := by
  obtain ⟨cells, ho, _⟩ := h
  rcases ho.2 with ⟨rfl, h0⟩ | ⟨g, cap, cur, rfl, hb, hh, h1, h2, _⟩
  · exact .inl ⟨rfl, List.eq_nil_of_length_eq_zero h0⟩
  · exact .inr ⟨g, cap, rfl, hb, (Array.getElem?_eq_some_iff.1 hh).1, h1, h2⟩

set_option maxRecDepth 100000 in
theorem cat_of {l : List Space} {t : Int} (h : Sl Enc.space w F A n c l) (hn : n ≤ 1000000) :
    Calls Try.prog 49 #[.slice A n c, .int .i64 t] w fun e w' => ∃ v F', e = .returned v ∧ Own Enc.space 77 w' w.heap.size F' v (l.filter fun x => x.tenant == t) ∧ Below w.heap.size w w' := by
  obtain ⟨w0, hw0⟩ : ∃ w0, w0 = w.alloc (.cells #[.int .i64 t] 3) := ⟨_, rfl⟩
  have hb0 : Below w.heap.size w w0 := by rw [hw0]; exact (Below.refl _ w).alloc (Nat.le_refl _) _
  have hc0 : w0.cell? ⟨w.heap.size, 0, none⟩ = some (.int .i64 t) := by rw [hw0]; simp
  have hs0 : w0.heap.size = w.heap.size + 1 := by rw [hw0]; simp
  have hfl : (l.filter fun x => !(x.tenant != t)) = l.filter fun x => x.tenant == t := by congr 1; funext x; simp [bne]
  have hC := clone_spaces (h.all hb0) hn
  rw [hw0] at hC
  have HC := Lib.hid hC
  rw [← hw0] at HC
  have hln := h.len
  clear h hC
  go_enter Try.func49, Try.ntmps49
  go_wp2_with fail
  simp only [← hw0]
  refine HC.out.mono ?_
  rintro e w1 ⟨v, rfl, ho, hd1⟩
  have hbx := bc hd1 hc0
  have hbw := hb0.trans (hd1.mono (by omega))
  rcases ho.parts with ⟨rfl, rfl⟩ | ⟨g, c', rfl, hg, hgl, hlc, hcm⟩
  · have hlt := World.block_lt_of_cell? w1 _ hbx
    have HD := Lib.hid (delete_nil (of_pred (g := w1.heap.size) hbx (by show w.heap.size ≠ _; have : w.heap.size < _ := hlt; omega)))
    clear ho
    go_wp2_with fail
    refine HD.out.mono ?_
    rintro e w2 ⟨rfl, hd2⟩
    go_wp2
    go_ret
    exact ⟨_, _, rfl, Own.nil _ _ _ _, hbw.trans (hd2.mono hbw.size)⟩
  · have HD := Lib.hid (delete_spaces ho (of_pred (g := g) hbx (by omega)) (by omega))
    rw [hfl, hln] at HD
    clear ho
    go_wp2_with fail
    with_reducible refine HD.out.mono ?_
    rintro e w2 ⟨m, rfl, ho2, hd2⟩
    go_wp2
    go_ret
    exact ⟨_, _, rfl, ho2.lower (by omega), hbw.trans (hd2.below (by omega) (by have := hbw.size; omega))⟩
end
end Go.Proofs.Ytdgcfgiedclmcaa
