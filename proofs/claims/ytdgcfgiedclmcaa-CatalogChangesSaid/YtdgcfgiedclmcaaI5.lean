/- Contract: catalog.Owned. -/
import Derived.Test.YtdgcfgiedclmcaaI4
namespace Go.Proofs.Ytdgcfgiedclmcaa
open Go.RowKit
section
variable {w : World} {F : Nat → Prop} {A : Option Addr} {n c b : Nat}
def space0 : Space := ⟨0, 0, 0, [], 0, 0, 0⟩
/-- a tenant's space, as it is found -/
def ownedOf (l : List Space) (i t : Int) : Option Space := if 0 ≤ findI l i ∧ (l.getD (findI l i).toNat space0).tenant = t then some (l.getD (findI l i).toNat space0) else none
theorem space0_rel (w : World) (F : Nat → Prop) : Enc.space.rel w F [.int .i64 0, .int .i64 0, .int .i64 0, .slice none 0 0, .slice none 0 0, .slice none 0 0, .slice none 0 0] space0 :=
  ⟨none, 0, 0, none, 0, none, 0, none, 0, rfl, by decide, by decide, by decide, ⟨rfl, by omega, ⟨by omega, fun _ => rfl⟩, fun i x h => by simp [space0] at h⟩, by decide, by decide, by decide⟩
set_option maxRecDepth 100000 in
set_option maxHeartbeats 1000000 in
theorem cat_owned {l : List Space} {i t : Int} (h : Sl Enc.space w F A n c l) :
    Calls Try.prog 45 #[.slice A n c, .int .i64 i, .int .i64 t] w fun e w' => ∃ vs, e = .returned (.tuple #[.agg vs.toArray, .int .i64 (if (ownedOf l i t).isSome then 0 else 31)]) ∧ Enc.space.rel w' F vs ((ownedOf l i t).getD space0) ∧ Below w.heap.size w w' := by
  obtain ⟨w0, hw0⟩ : ∃ w0, w0 = w.alloc (.cells #[.int .i64 0, .int .i64 0, .int .i64 0, .slice none 0 0, .slice none 0 0, .slice none 0 0, .slice none 0 0] 77) := ⟨_, rfl⟩
  have hb0 : Below w.heap.size w w0 := by rw [hw0]; exact (Below.refl _ w).alloc (Nat.le_refl _) _
  have hs0 : w0.heap.size = w.heap.size + 1 := by rw [hw0]; simp
  have hh0 : w0.heap[w.heap.size]? = some (.cells #[.int .i64 0, .int .i64 0, .int .i64 0, .slice none 0 0, .slice none 0 0, .slice none 0 0, .slice none 0 0] 77 (0, 0)) := by rw [hw0]; exact heap_alloc_new w _
  replace h := h.old
  have HC := Lib.hid (cat_find (i := i) (h.all hb0))
  have hbd := fidx_bd (fun x : Space => x.id == i) l
  have hln := h.len
  have HO : Hid (ownedOf l i t = if 0 ≤ findI l i ∧ (l.getD (findI l i).toNat space0).tenant = t then some (l.getD (findI l i).toNat space0) else none) := Lib.hid rfl
  generalize ownedOf l i t = o at *
  rw [show fidx (fun x : Space => x.id == i) l = findI l i from rfl] at hbd
  generalize findI l i = r at *
  have HSL := Lib.hid h
  have hmx := h.max
  clear h
  go_enter Try.func45, Try.ntmps45
  go_wp2_with fail
  simp only [← hw0]
  refine HC.out.mono ?_
  rintro e w1 ⟨rfl, hd1⟩
  have hh1 := (hd1.block _ (by omega)).trans hh0
  have hb1 := hb0.trans (hd1.mono (by omega))
  have hsl1 := HSL.out.all hb1
  have hbl : w.heap.size < w1.heap.size := by have := hd1.size; omega
  clear hw0 hh0 hs0 HC hb0
  have z0 : w1.cell? ⟨w.heap.size, 0, none⟩ = some (.int .i64 0) := by simp [World.cell?, hh1]
  have z1 : w1.cell? ⟨w.heap.size, 1, none⟩ = some (.int .i64 0) := by simp [World.cell?, hh1]
  have z2 : w1.cell? ⟨w.heap.size, 2, none⟩ = some (.int .i64 0) := by simp [World.cell?, hh1]
  have z3 : w1.cell? ⟨w.heap.size, 3, none⟩ = some (.slice none 0 0) := by simp [World.cell?, hh1]
  have z4 : w1.cell? ⟨w.heap.size, 4, none⟩ = some (.slice none 0 0) := by simp [World.cell?, hh1]
  have z5 : w1.cell? ⟨w.heap.size, 5, none⟩ = some (.slice none 0 0) := by simp [World.cell?, hh1]
  have z6 : w1.cell? ⟨w.heap.size, 6, none⟩ = some (.slice none 0 0) := by simp [World.cell?, hh1]
  have zf : ∀ o, w1.frozen? ⟨w.heap.size, o, none⟩ = false := fun o => by simp [World.frozen?, hh1]
  clear hh1
  rcases Int.lt_or_le r 0 with hr | hr
  · obtain rfl : r = -1 := by omega
    have ho : o = none := by rw [HO.out]; simp
    subst ho
    have hd0 : decide ((0 : Int) ≤ -1) = false := by decide
    have hm0 : max (-1 : Int) 0 = 0 := by omega
    have HB := Lib.hid hb1
    clear hd1 hb1 hsl1 hbd
    go_wp2
    refine bodyPost_ret (v := .tuple #[.agg #[.int .i64 0, .int .i64 0, .int .i64 0, .slice none 0 0, .slice none 0 0, .slice none 0 0, .slice none 0 0], .int .i64 31]) (by simp [results, Try.results45, go_sem, z0, z1, z2, z3, z4, z5, z6]) rfl ?_
    refine (fun (hB : Below w.heap.size w1 _) => ⟨[.int .i64 0, .int .i64 0, .int .i64 0, .slice none 0 0, .slice none 0 0, .slice none 0 0, .slice none 0 0], rfl, space0_rel _ _, HB.out.trans hB⟩) ?_
    iterate 7 refine Below.setCell ?_ (by simp <;> omega) _
    exact Below.refl _ _
  · obtain ⟨k, rfl⟩ : ∃ k : Nat, r = k := ⟨r.toNat, by omega⟩
    have hk : k < l.length := by omega
    have hg : l.getD (Int.toNat k) space0 = l[k] := by simp [List.getD, hk]
    rw [hg] at HO
    obtain ⟨ad, Ar, nr, cr, Ae, ce, At, ct, As, cs, rfl, a0, a1, a2, a3, a4, a5, a6, ra⟩ := hsl1.space k hk
    have hd0 : decide ((0 : Int) ≤ (k : Int)) = true := by simp
    have hm0 : max (k : Int) 0 = k := by omega
    obtain ⟨x, hx⟩ : ∃ x, l[k] = x := ⟨_, rfl⟩
    rw [hx] at HO a0 a1 a2 a4 a5 a6 ra
    have HB := Lib.hid hb1
    have HR := Lib.hid ra
    have hkn : k < n := by omega
    clear hd1 hb1 hsl1 hbd hg hx ra HSL
    by_cases ht : x.tenant = t
    · have ho : o = some x := by rw [HO.out]; simp [ht]
      subst ho
      go_wp2
      refine bodyPost_ret (v := .tuple #[.agg #[.int .i64 x.id, .int .i64 x.tenant, .int .i64 x.sectors, .slice Ar nr cr, .slice Ae x.ext ce, .slice At x.tree ct, .slice As x.sums cs], .int .i64 0]) (by simp [results, Try.results45, go_sem, z0, z1, z2, z3, z4, z5, z6, ht]) rfl ?_
      refine (fun (hB : Below w.heap.size w1 _) => ⟨[.int .i64 x.id, .int .i64 x.tenant, .int .i64 x.sectors, .slice Ar nr cr, .slice Ae x.ext ce, .slice At x.tree ct, .slice As x.sums cs], rfl, Enc.space.keep HR.out (fun b hb hl => ⟨hB.block b hb.2, hb.1⟩), HB.out.trans hB⟩) ?_
      iterate 7 refine Below.setCell ?_ (by simp <;> omega) _
      exact Below.refl _ _
    · have ho : o = none := by rw [HO.out]; simp [ht]
      subst ho
      go_wp2
      refine bodyPost_ret (v := .tuple #[.agg #[.int .i64 0, .int .i64 0, .int .i64 0, .slice none 0 0, .slice none 0 0, .slice none 0 0, .slice none 0 0], .int .i64 31]) (by simp [results, Try.results45, go_sem, z0, z1, z2, z3, z4, z5, z6]) rfl ?_
      refine (fun (hB : Below w.heap.size w1 _) => ⟨[.int .i64 0, .int .i64 0, .int .i64 0, .slice none 0 0, .slice none 0 0, .slice none 0 0, .slice none 0 0], rfl, space0_rel _ _, HB.out.trans hB⟩) ?_
      iterate 7 refine Below.setCell ?_ (by simp <;> omega) _
      exact Below.refl _ _
end
end Go.Proofs.Ytdgcfgiedclmcaa
