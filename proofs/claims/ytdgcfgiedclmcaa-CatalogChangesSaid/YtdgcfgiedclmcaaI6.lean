/- Contract: catalog.Add. -/
import Derived.Test.YtdgcfgiedclmcaaI4
import Derived.Deep.RegionLaw
namespace Go.Proofs.Ytdgcfgiedclmcaa
open Go.RowKit
section
variable {w : World} {F G : Nat → Prop} {A : Option Addr} {n c b : Nat}
theorem add_pred (F : Nat → Prop) {b : Nat} {i : Int} (hc : w.cell? ⟨b, 0, none⟩ = some (.int .i64 i)) : PredS w F 90 #[.pointer (some ⟨b, 0, none⟩)] (fun x => decide (i < x.id)) := by
  refine ⟨enters_of Try.func90 (by kernel_rfl) rfl, fun W x vs hb hr => ?_⟩
  obtain ⟨Ar, nr, cr, Ae, ce, At, ct, As, cs, rfl, -⟩ := hr
  have hc' := bc hb hc
  have hbl : b < W.heap.size := World.block_lt_of_cell? W _ hc'
  clear hc hb
  obtain ⟨x0, x1, x2, x3, x4, x5, x6⟩ := x
  dsimp only
  go_enter Try.func90, Try.ntmps90
  go_wp2
  go_ret
  exact ⟨rfl, (Below.refl _ _).alloc (Nat.le_refl _) _⟩

/-- what adding answers -/
def addE (l : List Space) (i most : Int) : Int := if listedB l = false ∨ (decide (1 ≤ i) && decide (i ≤ 64)) = false then 2 else if 0 ≤ findI l i then 36 else if most ≤ l.length then 34 else 0
def addAt (l : List Space) (i : Int) : Nat := if fidx (fun x : Space => decide (i < x.id)) l < 0 then l.length else (fidx (fun x : Space => decide (i < x.id)) l).toNat

theorem add_tail {w W : World} {F1 : Nat → Prop} {base vb aa : Nat} {v : Value} {l : List Space} {y : Space} {ys : List Value} (ho : Own Enc.space 77 W base F1 v l) (hW : Below w.heap.size w W) (hwb : w.heap.size ≤ base) (hbW : base ≤ W.heap.size) (hv : W.heap[vb]? = some (.cells ys.toArray 77)) (hne : ∀ g, v.ownBlock = some g → vb ≠ g) (hy : Enc.space.rel w G ys y) (haa : aa ≤ l.length) (hn : l.length ≤ 100) :
    Calls Try.prog 91 #[v, .int .i64 aa, .slice (some ⟨vb, 0, none⟩) 1 1] W fun e w' => ∃ v', e = .returned v' ∧ (∃ F', Own Enc.space 77 w' w.heap.size F' v' (l.take aa ++ y :: l.drop aa)) ∧ Below w.heap.size w w' := by
  have hy' : Enc.space.rel W (fun b => G b ∧ b < w.heap.size) ys y := Enc.space.keep hy fun b hb hl => ⟨hW.block b hl.lt, hb, hl.lt⟩
  refine (insert_spaces ho haa hbW hn hv hy' fun g hg => ⟨fun h => by have := (ho.blk hg).1; have := h.2; omega, hne g hg⟩).mono ?_
  rintro e w' ⟨v', rfl, ho', hg⟩
  exact ⟨v', rfl, ⟨_, ho'.lower hwb⟩, hW.grown hg hW.size (fun k hk => by have := (ho.blk hk).1; omega)⟩

theorem add_arm {w W w5 : World} {F1 : Nat → Prop} {aa : Nat} {v : Value} {l : List Space} {y : Space} {ys : List Value} (hW : Below w.heap.size w W) (hd5 : Below W.heap.size W w5) (ho : Own Enc.space 77 w5 W.heap.size F1 v l) (hy : Enc.space.rel w G ys y) (haa : aa ≤ l.length) (hn : l.length ≤ 100) :
    Calls Try.prog 91 #[v, .int .i64 aa, .slice (some ⟨w5.heap.size, 0, none⟩) 1 1] (w5.alloc (.cells ys.toArray 77)) fun e w' => ∃ v', e = .returned v' ∧ (∃ F', Own Enc.space 77 w' w.heap.size F' v' (l.take aa ++ y :: l.drop aa)) ∧ Below w.heap.size w w' := by
  have e1 : Below w5.heap.size w5 _ := (Below.refl _ w5).alloc (Nat.le_refl _) (.cells ys.toArray 77)
  have e2 := hW.trans (hd5.mono hW.size)
  have e3 := hd5.size
  have e4 := ho.all e1
  have e5 := e2.trans (e1.mono e2.size)
  exact add_tail (w := w) e4 e5 hW.size (by have := e1.size; omega) (heap_alloc_new w5 _) (fun g hg => by have := (ho.blk hg).2; omega) hy haa hn
theorem add_arm2 {w W w5 : World} {F1 : Nat → Prop} {aa : Nat} {v : Value} {l : List Space} {y : Space} {ys : List Value} (hW : Below w.heap.size w W) (hd5 : Below (W.alloc (.cells ys.toArray 77)).heap.size (W.alloc (.cells ys.toArray 77)) w5) (ho : Own Enc.space 77 w5 (W.alloc (.cells ys.toArray 77)).heap.size F1 v l) (hy : Enc.space.rel w G ys y) (haa : aa ≤ l.length) (hn : l.length ≤ 100) :
    Calls Try.prog 91 #[v, .int .i64 aa, .slice (some ⟨W.heap.size, 0, none⟩) 1 1] w5 fun e w' => ∃ v', e = .returned v' ∧ (∃ F', Own Enc.space 77 w' w.heap.size F' v' (l.take aa ++ y :: l.drop aa)) ∧ Below w.heap.size w w' := by
  have hs : (W.alloc (.cells ys.toArray 77)).heap.size = W.heap.size + 1 := by simp
  have e1 : Below W.heap.size W _ := (Below.refl _ W).alloc (Nat.le_refl _) (.cells ys.toArray 77)
  have e2 := hW.trans (e1.mono hW.size)
  have e3 := hd5.size
  have e5 := e2.trans (hd5.mono e2.size)
  exact add_tail (w := w) ho e5 e2.size e3 ((hd5.block _ (by omega)).trans (heap_alloc_new W _)) (fun g hg => by have := (ho.blk hg).1; omega) hy haa hn

set_option maxRecDepth 100000 in
set_option maxHeartbeats 1000000 in
theorem cat_add {l : List Space} {y : Space} {ys : List Value} {most : Int} (h : Sl Enc.space w F A n c l) (hn : n ≤ 100) (hy : Enc.space.rel w G ys y) :
    Calls Try.prog 51 #[.slice A n c, .agg ys.toArray, .int .i64 most] w fun e w' => ∃ v F', e = .returned (.tuple #[v, .int .i64 (addE l y.id most)]) ∧ Own Enc.space 77 w' w.heap.size F' v (if addE l y.id most = 0 then l.take (addAt l y.id) ++ y :: l.drop (addAt l y.id) else []) ∧ Below w.heap.size w w' := by
  replace h := h.old
  obtain ⟨w0, hw0⟩ : ∃ w0, w0 = w.alloc (.cells ys.toArray 77) := ⟨_, rfl⟩
  have hb0 : Below w.heap.size w w0 := by rw [hw0]; exact (Below.refl _ w).alloc (Nat.le_refl _) _
  have hs0 : w0.heap.size = w.heap.size + 1 := by rw [hw0]; simp
  have hh0 : w0.heap[w.heap.size]? = some (.cells ys.toArray 77 (0, 0)) := by rw [hw0]; exact heap_alloc_new w _
  have HY := Lib.hid hy
  obtain ⟨Ar, nr, cr, Ae, ce, At, ct, As, cs, rfl, -⟩ := hy
  have hln := h.len
  have HE : Hid (addE l y.id most = if listedB l = false ∨ (decide (1 ≤ y.id) && decide (y.id ≤ 64)) = false then 2 else if 0 ≤ findI l y.id then 36 else if most ≤ l.length then 34 else 0) := Lib.hid rfl
  have HA : Hid (addAt l y.id = if fidx (fun x : Space => decide (y.id < x.id)) l < 0 then l.length else (fidx (fun x : Space => decide (y.id < x.id)) l).toNat) := Lib.hid rfl
  generalize addE l y.id most = ae at *
  generalize addAt l y.id = aa at *
  obtain ⟨i, hi⟩ : ∃ i, y.id = i := ⟨_, rfl⟩
  rw [hi] at HE HA HY hh0 hw0 ⊢
  have HC := Lib.hid (cat_listed (h.all hb0))
  have HSL := Lib.hid h
  clear h hs0
  go_enter Try.func51, Try.ntmps51
  go_wp2_with fail
  simp only [← hw0]
  refine HC.out.mono ?_
  rintro e w1 ⟨rfl, hd1⟩
  have hsw := hb0.size
  have hs0 : w.heap.size < w0.heap.size := (Array.getElem?_eq_some_iff.1 hh0).1
  have hc1 : w1.cell? ⟨w.heap.size, 0, none⟩ = some (.int .i64 i) := by
    have := (hd1.block _ hs0).trans hh0
    simp [World.cell?, this]
  have HD0 := Lib.hid (hb0.trans (hd1.mono hsw))
  have HH0 := Lib.hid hh0
  have HD1 := Lib.hid hd1
  have hs1 := hd1.size
  clear hd1 hh0 hw0 hb0 HC
  cases hlb : listedB l with
  | false =>
    have hz : ae = 2 := by rw [HE.out]; simp [hlb]
    subst hz
    clear hlb
    go_wp2
    exact bodyPost_ret (v := .tuple #[.slice none 0 0, .int .i64 2]) (by simp [results, Try.results51, go_sem]) rfl ⟨_, rfl, ⟨_, Own.nil _ _ _ _⟩, HD0.out⟩
  | true =>
    rw [hlb] at HE
    clear hlb
    go_wp2_with fail
    refine (cat_may _ i).mono ?_
    rintro e w2 ⟨rfl, hw2⟩
    have hd2 : Below w1.heap.size w1 w2 := by obtain ⟨k, rfl⟩ := hw2; exact below_drewN (.refl _ _) k
    have hc2 := bc hd2 hc1
    have HD2 := Lib.hid (HD0.out.trans (hd2.mono (by omega)))
    have HD2' := Lib.hid (HD1.out.trans (hd2.mono hs1))
    have hs2 := hd2.size
    clear hc1 hw2 hd2 HD1 HD0
    cases hmy : (decide (1 ≤ i) && decide (i ≤ 64)) with
    | false =>
      have hz : ae = 2 := by rw [HE.out]; simp only [hmy, or_true, if_true]
      subst hz
      clear hmy
      go_wp2
      exact bodyPost_ret (v := .tuple #[.slice none 0 0, .int .i64 2]) (by simp [results, Try.results51, go_sem]) rfl ⟨_, rfl, ⟨_, Own.nil _ _ _ _⟩, HD2.out⟩
    | true =>
      rw [hmy] at HE
      clear hmy
      have HF := Lib.hid (cat_find (i := i) (HSL.out.all HD2.out))
      go_wp2_with fail
      refine HF.out.mono ?_
      rintro e w3 ⟨rfl, hd3⟩
      have hc3 := bc hd3 hc2
      have HD3 := Lib.hid (HD2.out.trans (hd3.mono (by omega)))
      have HD3' := Lib.hid (HD2'.out.trans (hd3.mono (by omega)))
      have hs3 := hd3.size
      have hbd := fidx_bd (fun x : Space => x.id == i) l
      rw [show fidx (fun x : Space => x.id == i) l = findI l i from rfl] at hbd
      clear hc2 hd3 HD2 HD2' HF
      generalize findI l i = r at *
      rcases Int.lt_or_le r 0 with hr | hr
      · obtain rfl : r = -1 := by omega
        have hd0 : decide ((0 : Int) ≤ -1) = false := by decide
        have hm0 : max (-1 : Int) 0 = 0 := by omega
        by_cases hmo : most ≤ (n : Int)
        · have hz : ae = 34 := by rw [HE.out, hln]; simp [hmo]
          subst hz
          go_wp2
          exact bodyPost_ret (v := .tuple #[.slice none 0 0, .int .i64 34]) (by simp [results, Try.results51, go_sem]) rfl ⟨_, rfl, ⟨_, Own.nil _ _ _ _⟩, HD3.out⟩
        · have hz : ae = 0 := by rw [HE.out, hln]; simp [hmo]
          subst hz
          have HI := Lib.hid (index_spaces (HSL.out.all HD3.out) (add_pred _ hc3))
          have hbd := fidx_bd (fun x : Space => decide (i < x.id)) l
          go_wp2_with fail
          refine HI.out.mono ?_
          rintro e w4 ⟨rfl, hd4⟩
          have HD4 := Lib.hid (HD3.out.trans (hd4.mono (by omega)))
          have HD4' := Lib.hid (HD3'.out.trans (hd4.mono (by omega)))
          have hs4 := hd4.size
          generalize fidx (fun x : Space => decide (i < x.id)) l = q at *
          clear HI hc3 HD3 HD3' hd4 HE
          have HCL : Hid (∀ W, Below w.heap.size w W → Calls Try.prog 88 #[.slice A n c] W fun e w' => ∃ v, e = .returned v ∧ Own Enc.space 77 w' W.heap.size (fun b => (F b ∧ b < w.heap.size) ∧ b < W.heap.size) v l ∧ Below W.heap.size W w') := Lib.hid fun W hW => clone_spaces (HSL.out.all hW) (by omega)
          have hh4 := (HD4'.out.block _ hs0).trans HH0.out
          have hl4 : w.heap.size < w4.heap.size := (Array.getElem?_eq_some_iff.1 hh4).1
          have z0 : w4.cell? ⟨w.heap.size, 0, none⟩ = some (.int .i64 i) := by simp [World.cell?, hh4]
          have z1 : w4.cell? ⟨w.heap.size, 1, none⟩ = some (.int .i64 y.tenant) := by simp [World.cell?, hh4]
          have z2 : w4.cell? ⟨w.heap.size, 2, none⟩ = some (.int .i64 y.sectors) := by simp [World.cell?, hh4]
          have z3 : w4.cell? ⟨w.heap.size, 3, none⟩ = some (.slice Ar nr cr) := by simp [World.cell?, hh4]
          have z4 : w4.cell? ⟨w.heap.size, 4, none⟩ = some (.slice Ae y.ext ce) := by simp [World.cell?, hh4]
          have z5 : w4.cell? ⟨w.heap.size, 5, none⟩ = some (.slice At y.tree ct) := by simp [World.cell?, hh4]
          have z6 : w4.cell? ⟨w.heap.size, 6, none⟩ = some (.slice As y.sums cs) := by simp [World.cell?, hh4]
          clear hh4
          rcases Int.lt_or_le q 0 with hq | hq
          · have ha : n = aa := by rw [HA.out]; simp [hq, hln]
            subst ha
            have hle : n ≤ l.length := by omega
            have HD5 := Lib.hid (below_drewN HD4.out 1 : Below _ _ w4.drew)
            have hl1 : l.length ≤ 100 := by omega
            go_wp2_with fail
            go_region_with (first
              | (go_at_call 88; refine (HCL.out _ (by first | exact HD4.out | exact below_drewN HD4.out _ | exact HD4.out.alloc (by omega) _ | exact (below_drewN HD4.out _).alloc (by simp; omega) _)).mono ?_; rintro e w5 ⟨v, rfl, ho, hd5⟩; try (have y0 := bc hd5 z0; have y1 := bc hd5 z1; have y2 := bc hd5 z2; have y3 := bc hd5 z3; have y4 := bc hd5 z4; have y5 := bc hd5 z5; have y6 := bc hd5 z6))
              | (go_at_call 91
                 first
                   | refine (add_arm (w := w) (W := w4.drew) HD5.out hd5 ho HY.out hle hl1).mono ?_
                   | refine (add_arm2 (w := w) (W := w4.drew) HD5.out hd5 ho HY.out hle hl1).mono ?_
                 rintro e w6 ⟨v', rfl, ho6, hd6⟩))
            all_goals
              go_wp2
              exact bodyPost_ret (v := .tuple #[v', .int .i64 0]) (by simp [results, Try.results51, go_sem]) rfl ⟨_, rfl, ho6, hd6⟩
          · obtain ⟨k, rfl⟩ : ∃ k : Nat, q = k := ⟨q.toNat, by omega⟩
            have ha : k = aa := by rw [HA.out]; simp; omega
            subst ha
            have hle : k ≤ l.length := by omega
            have HD5 := Lib.hid (below_drewN HD4.out 1 : Below _ _ w4.drew)
            have hl1 : l.length ≤ 100 := by omega
            go_wp2_with fail
            go_region_with (first
              | (go_at_call 88; refine (HCL.out _ (by first | exact HD4.out | exact below_drewN HD4.out _ | exact HD4.out.alloc (by omega) _ | exact (below_drewN HD4.out _).alloc (by simp; omega) _)).mono ?_; rintro e w5 ⟨v, rfl, ho, hd5⟩; try (have y0 := bc hd5 z0; have y1 := bc hd5 z1; have y2 := bc hd5 z2; have y3 := bc hd5 z3; have y4 := bc hd5 z4; have y5 := bc hd5 z5; have y6 := bc hd5 z6))
              | (go_at_call 91
                 first
                   | refine (add_arm (w := w) (W := w4.drew) HD5.out hd5 ho HY.out hle hl1).mono ?_
                   | refine (add_arm2 (w := w) (W := w4.drew) HD5.out hd5 ho HY.out hle hl1).mono ?_
                 rintro e w6 ⟨v', rfl, ho6, hd6⟩))
            all_goals
              go_wp2
              exact bodyPost_ret (v := .tuple #[v', .int .i64 0]) (by simp [results, Try.results51, go_sem]) rfl ⟨_, rfl, ho6, hd6⟩
      · have hz : ae = 36 := by rw [HE.out]; simp [hr]
        subst hz
        obtain ⟨k, rfl⟩ : ∃ k : Nat, r = k := ⟨r.toNat, by omega⟩
        have hd0 : decide ((0 : Int) ≤ (k : Int)) = true := by simp
        have hm0 : max (k : Int) 0 = k := by omega
        go_wp2
        exact bodyPost_ret (v := .tuple #[.slice none 0 0, .int .i64 36]) (by simp [results, Try.results51, go_sem]) rfl ⟨_, rfl, ⟨_, Own.nil _ _ _ _⟩, HD3.out⟩
end
end Go.Proofs.Ytdgcfgiedclmcaa
