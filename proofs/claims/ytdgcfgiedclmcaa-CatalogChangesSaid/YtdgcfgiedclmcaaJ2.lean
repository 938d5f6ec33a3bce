/- Contracts: catalog.place, Remove, Replace. -/
import Derived.Test.YtdgcfgiedclmcaaJ1
import Derived.Test.YtdgcfgiedclmcaaI4
namespace Go.Proofs.Ytdgcfgiedclmcaa
open Go.RowKit

section
variable {w : World} {F G : Nat → Prop} {A : Option Addr} {n c : Nat}
def placeE (l : List Space) (i : Int) : Int := if listedB l = false then 2 else if 0 ≤ findI l i then 0 else 31
set_option maxHeartbeats 400000 in
theorem cat_place {l : List Space} {i : Int} (h : Sl Enc.space w F A n c l) :
    Calls Try.prog 92 #[.slice A n c, .int .i64 i] w fun e w' => e = .returned (.tuple #[.int .i64 (if placeE l i = 0 then findI l i else 0), .int .i64 (placeE l i)]) ∧ Below w.heap.size w w' := by
  have hbd := fidx_bd (fun x : Space => x.id == i) l
  rw [show fidx (fun x : Space => x.id == i) l = findI l i from rfl] at hbd
  have hln := h.len
  have hmx := h.max
  have HS := Lib.hid h
  have HC := Lib.hid (cat_listed h)
  obtain ⟨pe, hpe⟩ : ∃ pe, pe = placeE l i := ⟨_, rfl⟩
  have HP : Hid (pe = if listedB l = false then 2 else if 0 ≤ findI l i then 0 else 31) := Lib.hid hpe
  rw [← hpe]
  have HFF := Lib.hid fun (W : World) (hW : Below w.heap.size w W) => cat_find (i := i) (HS.out.all hW)
  clear hpe h
  generalize findI l i = r at *
  go_enter Try.func92, Try.ntmps92
  go_wp2_with fail
  refine HC.out.mono ?_
  rintro e w1 ⟨rfl, hd1⟩
  cases hlb : listedB l with
  | false =>
    have hz : pe = 2 := by rw [HP.out, hlb]; rfl
    subst hz
    clear hlb HC
    go_wp2
    go_ret2
    exact ⟨rfl, hd1⟩
  | true =>
    have HF := Lib.hid (HFF.out w1 hd1)
    rw [hlb] at HP
    clear HC hlb HFF
    rcases Int.lt_or_le r 0 with hr | hr
    · obtain rfl : r = -1 := by omega
      have hz : pe = 31 := by rw [HP.out]; decide
      subst hz
      have hd0 : decide ((0 : Int) ≤ -1) = false := by decide
      have hm0 : max (-1 : Int) 0 = 0 := by omega
      go_wp2_with fail
      refine HF.out.mono ?_
      rintro e w2 ⟨rfl, hd2⟩
      go_wp2
      go_ret2
      exact ⟨rfl, hd1.trans (hd2.mono hd1.size)⟩
    · obtain ⟨k, rfl⟩ : ∃ k : Nat, r = k := ⟨r.toNat, by omega⟩
      have hz : pe = 0 := by rw [HP.out]; simp
      subst hz
      have hd0 : decide ((0 : Int) ≤ (k : Int)) = true := by simp
      have hm0 : max (k : Int) 0 = k := by omega
      go_wp2_with fail
      refine HF.out.mono ?_
      rintro e w2 ⟨rfl, hd2⟩
      go_wp2
      exact bodyPost_ret (v := .tuple #[.int .i64 k, .int .i64 0]) (by simp [results, Try.results92, go_sem]) rfl ⟨by simp, hd1.trans (hd2.mono hd1.size)⟩

set_option maxRecDepth 100000 in
set_option maxHeartbeats 1000000 in
theorem cat_remove {l : List Space} {i : Int} (h : Sl Enc.space w F A n c l) (hn : n ≤ 100) :
    Calls Try.prog 53 #[.slice A n c, .int .i64 i] w fun e w' => (∃ v F', e = .returned (.tuple #[v, .int .i64 (placeE l i)]) ∧ Own Enc.space 77 w' w.heap.size F' v (if placeE l i = 0 then l.eraseIdx (findI l i).toNat else [])) ∧ Below w.heap.size w w' := by
  have hbd := fidx_bd (fun x : Space => x.id == i) l
  rw [show fidx (fun x : Space => x.id == i) l = findI l i from rfl] at hbd
  have hln := h.len
  have HS := Lib.hid h
  have HC := Lib.hid (cat_place (i := i) h)
  have hp0 : placeE l i = 0 → 0 ≤ findI l i := fun e => by
    unfold placeE at e
    split at e
    · omega
    · split at e
      · assumption
      · omega
  clear h
  generalize placeE l i = pe at *
  generalize findI l i = r at *
  have HP0 := Lib.hid hp0
  clear hp0
  by_cases hz : pe = 0
  · subst hz
    obtain ⟨k, rfl⟩ : ∃ k : Nat, r = k := ⟨r.toNat, by have := HP0.out rfl; omega⟩
    simp only [if_true, Int.toNat_natCast] at HC ⊢
    have hkn : k < n := by omega
    clear HP0
    have HCL := Lib.hid fun (W : World) (hW : Below w.heap.size w W) => clone_spaces (HS.out.all hW) (by omega)
    go_enter Try.func53, Try.ntmps53
    go_wp2_with fail
    refine HC.out.mono ?_
    rintro e w1 ⟨rfl, hd1⟩
    have HC1 := Lib.hid (HCL.out w1 hd1)
    go_wp2_with fail
    refine HC1.out.mono ?_
    rintro e w2 ⟨v, rfl, ho, hd2⟩
    rcases ho.parts with ⟨-, rfl⟩ | ⟨g, c', rfl, hg, hgl, hlc, hcm⟩
    · simp at hbd; omega
    · rw [hln] at ho
      have HD := Lib.hid (delete_one ho hkn (by omega))
      have HB := Lib.hid (hd1.trans (hd2.mono hd1.size))
      have hs1 := hd1.size
      have hw1 : IntKind.i64.wrap ((k : Int) + 1) = (k : Int) + 1 := IntWalk.i64_in _ (by omega)
      clear ho hd1 hd2 HC1 HC HCL
      go_wp2_with fail
      refine HD.out.mono ?_
      rintro e w3 ⟨v3, rfl, ho3, hch⟩
      go_wp2
      exact bodyPost_ret (v := .tuple #[v3, .int .i64 0]) (by simp [results, Try.results53, go_sem]) rfl ⟨⟨_, _, rfl, ho3.lower (by omega)⟩, HB.out.trans (hch.below (by omega) HB.out.size)⟩
  · have hzd : decide (pe = 0) = false := by simp [hz]
    rw [if_neg hz]
    have HZ := Lib.hid hz
    clear hz
    go_enter Try.func53, Try.ntmps53
    go_wp2_with fail
    refine HC.out.mono ?_
    rintro e w1 ⟨rfl, hd1⟩
    have hz := HZ.out
    go_wp2
    exact bodyPost_ret (v := .tuple #[.slice none 0 0, .int .i64 pe]) (by simp [results, Try.results53, go_sem]) rfl ⟨⟨_, _, rfl, Own.nil _ _ _ _⟩, hd1⟩

set_option maxRecDepth 100000 in
set_option maxHeartbeats 1000000 in
theorem cat_replace {l : List Space} {y : Space} {ys : List Value} (h : Sl Enc.space w F A n c l) (hn : n ≤ 100) (hy : Enc.space.rel w G ys y) :
    Calls Try.prog 52 #[.slice A n c, .agg ys.toArray] w fun e w' => (∃ v F', e = .returned (.tuple #[v, .int .i64 (placeE l y.id)]) ∧ Own Enc.space 77 w' w.heap.size F' v (if placeE l y.id = 0 then l.set (findI l y.id).toNat y else [])) ∧ Below w.heap.size w w' := by
  replace h := h.old
  have hbd := fidx_bd (fun x : Space => x.id == y.id) l
  rw [show fidx (fun x : Space => x.id == y.id) l = findI l y.id from rfl] at hbd
  have hln := h.len
  obtain ⟨w0, hw0⟩ : ∃ w0, w0 = w.alloc (.cells ys.toArray 77) := ⟨_, rfl⟩
  have hb0 : Below w.heap.size w w0 := by rw [hw0]; exact (Below.refl _ w).alloc (Nat.le_refl _) _
  have hh0 : w0.heap[w.heap.size]? = some (.cells ys.toArray 77 (0, 0)) := by rw [hw0]; exact heap_alloc_new w _
  have hs0 : w.heap.size < w0.heap.size := (Array.getElem?_eq_some_iff.1 hh0).1
  have HY := Lib.hid (Enc.space.keep (F' := fun b => G b ∧ b < w.heap.size) hy fun b hb hl => ⟨rfl, hb, hl.lt⟩)
  obtain ⟨Ar, nr, cr, Ae, ce, At, ct, As, cs, rfl, -⟩ := hy
  have HS := Lib.hid (h.all hb0)
  have HC := Lib.hid (cat_place (i := y.id) (h.all hb0))
  have hp0 : placeE l y.id = 0 → 0 ≤ findI l y.id := fun e => by
    unfold placeE at e
    split at e
    · omega
    · split at e
      · assumption
      · omega
  clear h
  generalize placeE l y.id = pe at *
  generalize findI l y.id = r at *
  have HP0 := Lib.hid hp0
  clear hp0
  by_cases hz : pe = 0
  · subst hz
    obtain ⟨k, rfl⟩ : ∃ k : Nat, r = k := ⟨r.toNat, by have := HP0.out rfl; omega⟩
    simp only [if_true, Int.toNat_natCast] at HC ⊢
    have hkn : k < n := by omega
    clear HP0
    have HCL := Lib.hid fun (W : World) (hW : Below w0.heap.size w0 W) => clone_spaces (HS.out.all hW) (by omega)
    go_enter Try.func52, Try.ntmps52
    go_wp2_with fail
    simp only [← hw0]
    refine HC.out.mono ?_
    rintro e w1 ⟨rfl, hd1⟩
    clear hw0
    have hs1 := hd1.size
    have HC1 := Lib.hid (HCL.out w1 hd1)
    go_wp2_with fail
    refine HC1.out.mono ?_
    rintro e w2 ⟨v, rfl, ho, hd2⟩
    rcases ho.parts with ⟨-, rfl⟩ | ⟨g, c', rfl, hg, hgl, hlc, hcm⟩
    · simp at hbd; omega
    · rw [hln] at ho
      have HD2 := Lib.hid (hd1.trans (hd2.mono hs1))
      have hh2 := (HD2.out.block _ hs0).trans hh0
      have hl2 : w.heap.size < w2.heap.size := (Array.getElem?_eq_some_iff.1 hh2).1
      have hgne : ¬ (g = w.heap.size) := by omega
      have z0 : w2.cell? ⟨w.heap.size, 0, none⟩ = some (.int .i64 y.id) := by simp [World.cell?, hh2]
      have z1 : w2.cell? ⟨w.heap.size, 1, none⟩ = some (.int .i64 y.tenant) := by simp [World.cell?, hh2]
      have z2 : w2.cell? ⟨w.heap.size, 2, none⟩ = some (.int .i64 y.sectors) := by simp [World.cell?, hh2]
      have z3 : w2.cell? ⟨w.heap.size, 3, none⟩ = some (.slice Ar nr cr) := by simp [World.cell?, hh2]
      have z4 : w2.cell? ⟨w.heap.size, 4, none⟩ = some (.slice Ae y.ext ce) := by simp [World.cell?, hh2]
      have z5 : w2.cell? ⟨w.heap.size, 5, none⟩ = some (.slice At y.tree ct) := by simp [World.cell?, hh2]
      have z6 : w2.cell? ⟨w.heap.size, 6, none⟩ = some (.slice As y.sums cs) := by simp [World.cell?, hh2]
      have HB0 := Lib.hid hb0
      have hoF : Own Enc.space 77 w2 w1.heap.size (fun b => b < w.heap.size) (.slice (some ⟨g, 0, none⟩) n c') l := ho.weaken (fun b hb => hb.1.2) (fun q hq => by cases hq; show ¬ g < _; omega) (fun b hb => by omega)
      have hyF : Enc.space.rel w2 (fun b => b < w.heap.size) _ y := Enc.space.keep HY.out fun b hb hl => ⟨(HB0.out.trans (HD2.out.mono hb0.size)).block b hl.lt, hb.2⟩
      have HST := Lib.hid (hoF.storeN k (by omega) hyF)
      have HCH := Lib.hid (ch_setCells (g := g) [.int .i64 y.id, .int .i64 y.tenant, .int .i64 y.sectors, .slice Ar nr cr, .slice Ae y.ext ce, .slice At y.tree ct, .slice As y.sums cs] w2 (k * 7))
      have fz := fun o => ho.froz o
      obtain ⟨us, hus, hucs⟩ := hoF.elem k (by omega)
      have hul := Enc.space.len hus
      match us, hul, hucs with
      | [v0, v1, v2, v3, v4, v5, v6], _, hucs =>
        have d0 : w2.cell? ⟨g, k * 7, none⟩ = some v0 := hucs 0 _ rfl
        have d1 : w2.cell? ⟨g, k * 7 + 1, none⟩ = some v1 := hucs 1 _ rfl
        have d2 : w2.cell? ⟨g, k * 7 + 2, none⟩ = some v2 := hucs 2 _ rfl
        have d3 : w2.cell? ⟨g, k * 7 + 3, none⟩ = some v3 := hucs 3 _ rfl
        have d4 : w2.cell? ⟨g, k * 7 + 4, none⟩ = some v4 := hucs 4 _ rfl
        have d5 : w2.cell? ⟨g, k * 7 + 5, none⟩ = some v5 := hucs 5 _ rfl
        have d6 : w2.cell? ⟨g, k * 7 + 6, none⟩ = some v6 := hucs 6 _ rfl
        clear hucs ho hoF hyF hus hd1 hd2 HC1 HC HCL hh2 hh0 hb0
        go_wp2
        rw [setCells7]
        exact bodyPost_ret (v := .tuple #[.slice (some ⟨g, 0, none⟩) n c', .int .i64 0]) (by simp [results, Try.results52, go_sem]) rfl ⟨⟨_, _, rfl, HST.out.lower (by omega)⟩, (HB0.out.trans (HD2.out.mono HB0.out.size)).trans (HCH.out.below (by omega) (by omega))⟩
  · rw [if_neg hz]
    have HZ := Lib.hid hz
    clear hz
    go_enter Try.func52, Try.ntmps52
    go_wp2_with fail
    simp only [← hw0]
    refine HC.out.mono ?_
    rintro e w1 ⟨rfl, hd1⟩
    have hz := HZ.out
    clear hw0
    go_wp2
    exact bodyPost_ret (v := .tuple #[.slice none 0 0, .int .i64 pe]) (by simp [results, Try.results52, go_sem]) rfl ⟨⟨_, _, rfl, Own.nil _ _ _ _⟩, hb0.trans (hd1.mono hb0.size)⟩
end
end Go.Proofs.Ytdgcfgiedclmcaa
