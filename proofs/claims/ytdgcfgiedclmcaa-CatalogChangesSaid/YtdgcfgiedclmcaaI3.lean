/- Contract: slices.Insert of one space, where there is no room; all ways together. -/
import Derived.Test.YtdgcfgiedclmcaaI2
namespace Go.Proofs.Ytdgcfgiedclmcaa
open Go.RowKit

section
variable {w : World} {F G : Nat → Prop} {n i g base vb : Nat}
set_option maxRecDepth 100000 in
set_option maxHeartbeats 1000000 in
theorem insert_grow {xs : List Space} {y : Space} {vs : List Value} (h : Own Enc.space 77 w base F (.slice (some ⟨g, 0, none⟩) n n) xs) (hi : i < n) (hb : base ≤ w.heap.size) (hn : n ≤ 100) (hv : w.heap[vb]? = some (.cells vs.toArray 77)) (hy : Enc.space.rel w G vs y) :
    Calls Try.prog 91 #[.slice (some ⟨g, 0, none⟩) n n, .int .i64 i, .slice (some ⟨vb, 0, none⟩) 1 1] w fun e w' => ∃ v, e = .returned v ∧ Own Enc.space 77 w' base (fun b => F b ∨ (G b ∧ b < w.heap.size)) v (xs.take i ++ y :: xs.drop i) ∧ w.grownBy w' (some g) := by
  have hln := h.len
  have hgl : g < w.heap.size := (h.blk rfl).2
  obtain ⟨cells, ho, hr, hng, hlt⟩ := h
  rw [hln] at ho
  have hcl : cells.length = n * 7 := ho.1
  have hvl : vs.length = 7 := Enc.space.len hy
  have hvbl := lt_of_block hv
  have h1c : ∀ v ∈ cells, v.oneCell' = true := by
    intro v hv'
    obtain ⟨k, hk, rfl⟩ := List.getElem_of_mem hv'
    rw [hcl] at hk
    have hj : k / 7 < xs.length := by omega
    have := hr (k / 7) _ (List.getElem?_eq_getElem hj)
    refine Enc.space.one this _ ?_
    rw [List.mem_iff_getElem?]
    refine ⟨k % 7, ?_⟩
    show ((cells.drop (k / 7 * 7)).take 7)[k % 7]? = _
    rw [List.getElem?_take_of_lt (Nat.mod_lt _ (by omega)), List.getElem?_drop, show k / 7 * 7 + k % 7 = k by omega, List.getElem?_eq_getElem]
  obtain ⟨i0, hi0, hz0, hz1, hz2⟩ := info_parts Try.infoSpace
  have hol : (cells.take (i * 7)).length = i * 7 := by rw [List.length_take]; omega
  have hap := run_append_zeros_grow (P := Try.prog) w 72 3 72 77 i0 _ .i64 .i64 Try.underlying72 Try.underlying3 hi0 hz0 ⟨g, 0, none⟩ i n (n + 1 - i) (cells.take (i * 7)) (by omega) (by omega) (by omega) (by omega) (by omega) (by omega) (by rw [hol, hz1])
    (fun j v hj => by
      rw [List.getElem?_take] at hj
      split at hj
      · rename_i hji
        rw [add_plain, ho.cellAt _ (by show j < n * 7; omega), hj]
      · cases hj)
  have hKn := grownCap_ge w (i + (n + 1 - i)) n 77
  rw [show i + (n + 1 - i) = n + 1 by omega] at hap hKn
  have hKm := grownCap_le_maxLen w (n + 1) n 77 (by simp only [maxLen]; omega)
  generalize grownCap w (n + 1) n 77 = K at *
  rw [show ((n + 1 - i : Nat) : Int) = (n : Int) + 1 - (i : Int) by omega] at hap
  obtain ⟨z, hz, hzs⟩ : ∃ z : Value, z = (Value.agg #[.int .i64 0, .int .i64 0, .int .i64 0, .slice none 0 0, .slice none 0 0, .slice none 0 0, .slice none 0 0]) ∧ z.cells.size = 7 := ⟨_, rfl, rfl⟩
  rw [← hz] at hap
  obtain ⟨cur, hcur⟩ : ∃ cur, cur = (cells.take (i * 7)).toArray ++ Builtin.zeroCells z.cells (n + 1 - i) ++ Builtin.zeroCells z.cells (K - (n + 1)) := ⟨_, rfl⟩
  rw [← hcur] at hap
  obtain ⟨Z, hZ, hZl⟩ : ∃ Z : List Value, cur.toList.take ((n + 1) * 7) = cells.take (i * 7) ++ Z ∧ Z.length = (n + 1 - i) * 7 := by
    refine ⟨(Builtin.zeroCells z.cells (n + 1 - i)).toList, ?_, ?_⟩
    · rw [hcur, Array.toList_append, Array.toList_append, List.take_append_of_le_length (by rw [List.length_append, Array.length_toList, Array.length_toList, size_zeroCells, hzs]; simp; omega), List.take_of_length_le (by rw [List.length_append, Array.length_toList, Array.length_toList, size_zeroCells, hzs]; simp; omega)]
    · rw [Array.length_toList, size_zeroCells, hzs]
  have hcs : cur.size = K * 7 := by
    rw [hcur, Array.size_append, Array.size_append, size_zeroCells, size_zeroCells, hzs]
    simp [hol]
    omega
  clear hcur
  obtain ⟨Wa, hWa⟩ : ∃ Wa, Wa = w.drew.alloc (.cells cur 77) := ⟨_, rfl⟩
  have hba : Below w.heap.size w Wa := by rw [hWa]; exact ((Below.refl _ w).drew).alloc (Nat.le_refl _) _
  have hha : Wa.heap[w.heap.size]? = some (.cells cur 77 (0, 0)) := by rw [hWa]; exact heap_alloc_new w.drew _
  obtain ⟨b, hbE⟩ : ∃ b, w.heap.size = b := ⟨_, rfl⟩
  rw [← hWa] at hap
  have owa : Wa.ownsRow base 77 7 (.slice (some ⟨b, 0, none⟩) (n + 1) K) (n + 1) (cells.take (i * 7) ++ Z) :=
    ⟨by rw [List.length_append, hol, hZl]; omega, .inr ⟨b, K, cur, rfl, by omega, by rw [← hbE]; exact hha, hKn, hKm, hcs, hZ⟩⟩
  have hcp1 : ∀ ty dc, (Builtin.copy_ #[72, 72] ty #[.slice (some ⟨b, i * 7, none⟩) (n + 1 - i) dc, .slice (some ⟨vb, 0, none⟩) 1 1]).run Try.prog Wa = .ok (goInt 1) (Wa.setCells b (i * 7) vs) := fun ty dc => by
    have := run_copy_sized (P := Try.prog) Wa 72 72 ty 77 b (i * 7) (n + 1 - i) dc ⟨vb, 0, none⟩ 1 1 7 vs Try.underlying72 Try.size1Space (by rw [hvl]; simp only [Nat.min_def]; split <;> omega)
      (fun j v hj => by
        rw [add_plain, (hba.cell (p := ⟨vb, j, none⟩) hvbl)]
        simp [World.cell?, hv, hj])
      (fun j hj => by
        rw [hvl] at hj
        rw [owa.cellAt _ (by omega), List.getElem?_eq_getElem (by rw [List.length_append, hol, hZl]; omega)]; rfl)
      (fun j hj => owa.frozenAt _) (fun v hv => Enc.space.one hy v hv)
    rw [this]
    congr 2
    simp only [Nat.min_def]; split <;> omega
  have owb := owns_setCells (w := Wa) vs (i * 7) owa
  have hchb := ch_setCells (g := b) vs Wa (i * 7)
  obtain ⟨W1, hW1⟩ : ∃ W1, W1 = Wa.setCells b (i * 7) vs := ⟨_, rfl⟩
  rw [← hW1] at owb hchb hcp1
  have hcp2 : ∀ ty dc sc, (Builtin.copy_ #[72, 72] ty #[.slice (some ⟨b, (i + 1) * 7, none⟩) (n - i) dc, .slice (some ⟨g, i * 7, none⟩) (n - i) sc]).run Try.prog W1.drew = .ok (goInt (n - i)) (W1.drew.setCells b ((i + 1) * 7) (cells.drop (i * 7))) := fun ty dc sc => by
    have := run_copy_sized (P := Try.prog) W1.drew 72 72 ty 77 b ((i + 1) * 7) (n - i) dc ⟨g, i * 7, none⟩ (n - i) sc 7 (cells.drop (i * 7)) Try.underlying72 Try.size1Space (by rw [List.length_drop, hcl]; simp only [Nat.min_def]; split <;> omega)
      (fun j v hj => by
        rw [List.getElem?_drop] at hj
        have hjl := (List.getElem?_eq_some_iff.1 hj).1
        rw [add_off, show W1.drew.cell? ⟨g, i * 7 + j, none⟩ = W1.cell? ⟨g, i * 7 + j, none⟩ from rfl, hchb.cell (p := ⟨g, i * 7 + j, none⟩) (by have := hba.size; show g < _; omega) (by show g ≠ b; omega), hba.cell (p := ⟨g, i * 7 + j, none⟩) hgl, ho.cellAt _ (by show i * 7 + j < n * 7; rw [← hcl]; exact hjl), hj])
      (fun j hj => by
        rw [List.length_drop, hcl] at hj
        show (W1.cell? ⟨b, _, none⟩).isSome = true
        rw [owb.cellAt _ (by omega), List.getElem?_eq_getElem (by rw [setSeg_length, List.length_append, hol, hZl]; omega)]; rfl)
      (fun j hj => by show W1.frozen? ⟨b, _, none⟩ = false; exact owb.frozenAt _) (fun v hv => h1c v (List.mem_of_mem_drop hv))
    rw [this]
    congr 2
    simp only [Nat.min_def]; split <;> omega
  have owc := owns_setCells (w := W1.drew) (g := b) (cells.drop (i * 7)) ((i + 1) * 7) owb
  have hchc := hchb.trans (((Ch.refl b W1).drewN 1).trans (ch_setCells (g := b) (cells.drop (i * 7)) W1.drew ((i + 1) * 7)))
  have hseg : setSeg (setSeg (cells.take (i * 7) ++ Z) (i * 7) vs) ((i + 1) * 7) (cells.drop (i * 7)) = cells.take (i * 7) ++ (vs ++ cells.drop (i * 7)) := by
    have := seg_insert2 (size := 7) (n := n) (i := i) (cells := cells) (ex := Z) (vs := vs) hcl (Nat.le_of_eq hZl.symm) hvl (by omega)
    rwa [List.take_of_length_le (by rw [setSeg_length, setSeg_length, List.length_append, hol, hZl]; omega)] at this
  rw [hseg] at owc
  obtain ⟨W2, hW2⟩ : ∃ W2, W2 = W1.drew.setCells b ((i + 1) * 7) (cells.drop (i * 7)) := ⟨_, rfl⟩
  rw [← hW2] at owc hchc hcp2
  have hbl : Below b w W2 := (by rw [← hbE]; exact hba : Below b w Wa).trans (hchc.below (Nat.le_refl _) (by have := hba.size; omega))
  have hl2 : (xs.take i ++ y :: xs.drop i).length = n + 1 := by simp; omega
  have HFIN : Hid (Own Enc.space 77 W2 base (fun q => F q ∨ (G q ∧ q < w.heap.size)) (.slice (some ⟨b, 0, none⟩) (n + 1) K) (xs.take i ++ y :: xs.drop i)) := Lib.hid (by
    have hk : KeepF w W2 F (fun q => F q ∨ (G q ∧ q < w.heap.size)) := fun q hq hl => ⟨hbl.block q (by have := hl.lt; omega), .inl hq⟩
    have hk' : KeepF w W2 G (fun q => F q ∨ (G q ∧ q < w.heap.size)) := fun q hq hl => ⟨hbl.block q (by have := hl.lt; omega), .inr ⟨hq, hl.lt⟩⟩
    refine ⟨_, by rw [hl2]; exact owc, insert_rel (R := fun us x => Enc.space.rel W2 (fun q => F q ∨ (G q ∧ q < w.heap.size)) us x) (size := 7) (by omega) hcl hln hvl (by omega) (fun j x hx => Enc.space.keep (hr j x hx) hk) (Enc.space.keep hy hk'), fun g' hg' hq => ?_, fun q hq => ?_⟩
    · cases hg'
      rcases hq with hq | hq
      · have : b < w.heap.size := hlt _ hq
        omega
      · have : b < w.heap.size := hq.2
        omega
    · have := hbl.size
      rcases hq with hq | hq
      · have := hlt q hq; omega
      · have := hq.2; omega)
  have HG2 : Hid (w.grownBy W2 (some g)) := Lib.hid ⟨hbl.os, hbl.tape, hbl.output, hbl.size, fun k hk hne => hbl.block k (by omega)⟩
  have HC1 := Lib.hid hcp1
  have HC2 := Lib.hid hcp2
  have HAP := Lib.hid hap
  have hKm' : K ≤ 9223372036854775807 := by simpa [maxLen] using hKm
  rw [hbE] at HAP
  clear ho hcl hvl h1c hr hng hlt hln hl2 hcp1 hcp2 hy hv hap owa owb owc hchb hchc hbl hseg hW1 hW2 hWa hha hba hZ hZl hcs hol hi0 hz0 hz1 hz2 hKm hbE
  have hk0 : ¬ (K = i) := by omega
  have hk1 : ¬ (K = i + 1) := by omega
  have hk2 : ¬ (n = i) := by omega
  have hk3 : ¬ (i = K) := by omega
  have hw1 : IntKind.i64.wrap ((i : Int) + 1) = (i : Int) + 1 := IntWalk.i64_in _ (by omega)
  have hb1 : (0 : Int) ≤ (i : Int) + 1 := by omega
  have hb3 : (i : Int) ≤ (n : Int) := by omega
  have hb5 : (i : Int) ≤ (n : Int) + 1 := by omega
  have hin : i ≤ n := by omega
  have hin1 : i ≤ n + 1 := by omega
  have hiK : i ≤ K := by omega
  have hnK : n + 1 ≤ K := hKn
  have htn : ((i : Int) + 1).toNat = i + 1 := by omega
  have hcp1 := HC1.out
  have hcp2 := HC2.out
  go_enter Try.func91, Try.ntmps91
  go_wp2_with (at_builtin; first | (refine Lib.wpList_append_run _ rfl _ _ 72 3 rfl _ _ rfl rfl _ _ HAP.out ?_) | (refine wpList_copy_runI _ rfl _ _ 72 72 rfl _ _ rfl rfl (hcp1 _ _) ?_))
  go_region_law (refine step_copy_runI rfl _ _ 72 72 rfl _ _ (by simp [Act.eval, Act.put]) (by simp [Act.eval, Act.put]) (hcp2 _ _ _) ?_)
  all_goals
    go_wp2_with fail
    go_ret
    exact ⟨_, rfl, HFIN.out, HG2.out⟩
end
end Go.Proofs.Ytdgcfgiedclmcaa
