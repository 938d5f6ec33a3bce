/- Contract: law27.awake. -/
import Derived.Test.YtdgcfgiedclmcaaI6
namespace Go.Proofs.Ytdgcfgiedclmcaa
open Go.RowKit
def spaceN (i : Int) : Space := ⟨i, 0, 0, [], 0, 0, 0⟩
theorem spaceN_rel (w : World) (F : Nat → Prop) {i : Int} (hi : (Lit.int .i64 i).wf = true) : Enc.space.rel w F [.int .i64 i, .int .i64 0, .int .i64 0, .slice none 0 0, .slice none 0 0, .slice none 0 0, .slice none 0 0] (spaceN i) :=
  ⟨none, 0, 0, none, 0, none, 0, none, 0, rfl, hi, by show (Lit.int .i64 0).wf = true; decide, by show (Lit.int .i64 0).wf = true; decide, ⟨rfl, by omega, ⟨by omega, fun _ => rfl⟩, fun i x h => by simp [spaceN] at h⟩, Nat.zero_le _, Nat.zero_le _, Nat.zero_le _⟩
theorem awake_e : addE [spaceN 1, spaceN 3] 2 9 = 0 := by decide
theorem awake_at : addAt [spaceN 1, spaceN 3] 2 = 1 := by decide
set_option maxRecDepth 100000 in
theorem law_awake (w : World) : Calls Try.prog 42 #[] w fun e w' => e = .returned (.bool true) ∧ Below w.heap.size w w' := by
  obtain ⟨w0, hw0⟩ : ∃ w0, w0 = w.alloc (.cells #[.int .i64 1, .int .i64 0, .int .i64 0, .slice none 0 0, .slice none 0 0, .slice none 0 0, .slice none 0 0, .int .i64 3, .int .i64 0, .int .i64 0, .slice none 0 0, .slice none 0 0, .slice none 0 0, .slice none 0 0] 77) := ⟨_, rfl⟩
  have hb0 : Below w.heap.size w w0 := by rw [hw0]; exact (Below.refl _ w).alloc (Nat.le_refl _) _
  have hh0 : w0.heap[w.heap.size]? = some (.cells #[.int .i64 1, .int .i64 0, .int .i64 0, .slice none 0 0, .slice none 0 0, .slice none 0 0, .slice none 0 0, .int .i64 3, .int .i64 0, .int .i64 0, .slice none 0 0, .slice none 0 0, .slice none 0 0, .slice none 0 0] 77 (0, 0)) := by rw [hw0]; exact heap_alloc_new w _
  have e7 : Enc.space.size = 7 := rfl
  have hs : Sl Enc.space w0 (fun b => b = w.heap.size) (some ⟨w.heap.size, 0, none⟩) 2 2 [spaceN 1, spaceN 3] := by
    refine ⟨rfl, by omega, ⟨by omega, fun h => by cases h⟩, fun i x hx => ?_⟩
    match i, hx with
    | 0, hx =>
      simp at hx
      subst hx
      refine ⟨_, _, rfl, rfl, spaceN_rel _ _ (by decide), fun j u hu => ?_⟩
      have hj := (List.getElem?_eq_some_iff.1 hu).1
      simp at hj
      match j, hj with
      | 0, _ => cases hu; rw [add_plain]; simp [World.cell?, hh0, e7]
      | 1, _ => cases hu; rw [add_plain]; simp [World.cell?, hh0, e7]
      | 2, _ => cases hu; rw [add_plain]; simp [World.cell?, hh0, e7]
      | 3, _ => cases hu; rw [add_plain]; simp [World.cell?, hh0, e7]
      | 4, _ => cases hu; rw [add_plain]; simp [World.cell?, hh0, e7]
      | 5, _ => cases hu; rw [add_plain]; simp [World.cell?, hh0, e7]
      | 6, _ => cases hu; rw [add_plain]; simp [World.cell?, hh0, e7]
    | 1, hx =>
      simp at hx
      subst hx
      refine ⟨_, _, rfl, rfl, spaceN_rel _ _ (by decide), fun j u hu => ?_⟩
      have hj := (List.getElem?_eq_some_iff.1 hu).1
      simp at hj
      match j, hj with
      | 0, _ => cases hu; rw [add_plain]; simp [World.cell?, hh0, e7]
      | 1, _ => cases hu; rw [add_plain]; simp [World.cell?, hh0, e7]
      | 2, _ => cases hu; rw [add_plain]; simp [World.cell?, hh0, e7]
      | 3, _ => cases hu; rw [add_plain]; simp [World.cell?, hh0, e7]
      | 4, _ => cases hu; rw [add_plain]; simp [World.cell?, hh0, e7]
      | 5, _ => cases hu; rw [add_plain]; simp [World.cell?, hh0, e7]
      | 6, _ => cases hu; rw [add_plain]; simp [World.cell?, hh0, e7]
  have hC := cat_add (most := 9) hs (by omega) (spaceN_rel w0 (fun _ => False) (i := 2) (by decide))
  have e2 : (spaceN 2).id = 2 := rfl
  rw [e2, awake_e, awake_at] at hC
  have HC := Lib.hid hC
  have HB := Lib.hid hb0
  clear hC hs hh0 hb0
  go_enter Try.func42, Try.ntmps42
  go_wp2_with fail
  simp only [← hw0]
  refine HC.out.mono ?_
  rintro e w1 ⟨v, F', rfl, ho, hd1⟩
  clear hw0
  simp only [if_true] at ho
  obtain ⟨A, c, rfl, -, -, hA⟩ := ho.form
  obtain ⟨g, rfl, -⟩ := hA (by simp)
  obtain ⟨vs, hr, hcs⟩ := ho.elem 1 (by simp)
  obtain ⟨_, _, _, _, _, _, _, _, _, rfl, -⟩ := hr
  have hc1 : w1.cell? ⟨g, 7, none⟩ = some (.int .i64 2) := hcs 0 _ rfl
  have HD := Lib.hid (HB.out.trans (hd1.mono HB.out.size))
  clear hcs ho hd1 hA
  go_wp2
  go_ret
  exact ⟨rfl, HD.out⟩
end Go.Proofs.Ytdgcfgiedclmcaa
