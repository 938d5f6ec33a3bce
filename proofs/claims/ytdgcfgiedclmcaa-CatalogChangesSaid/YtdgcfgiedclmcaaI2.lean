/- Contract: slices.Insert of one space, where there is room. -/
import Derived.Test.YtdgcfgiedclmcaaI1
import Derived.Deep.RegionLaw
import Derived.Deep.AppendLies
namespace Go.Proofs.Ytdgcfgiedclmcaa
open Go.RowKit

theorem Try.sizeSpace (w : World) : (Go.sizeOf 77).run Try.prog w = .ok 7 w := by kernel_rfl
theorem Try.size1Space : (Try.prog.info? 77).map (·.size) = some 7 := by kernel_rfl
theorem overlaps_spaces (w : World) {va vb a o lb cb : Nat} {ca cc : Array Value} {t t' : TypeId} {fr : Nat × Nat} (hne : va ≠ vb) (ha : w.heap[va]? = some (.cells ca t (0, 0))) (hb : w.heap[vb]? = some (.cells cc t' fr)) (hcc : cc.size ≠ 0) (n c : Nat) (_ : a = 0) :
    (callFunc 111 #[.slice (some ⟨va, 0, none⟩) n c, .slice (some ⟨vb, o, none⟩) lb cb]).run Try.prog w = .ok (.value (.bool false)) w := by
  rw [run_callFunc_extern Try.func111 (by kernel_rfl) (by kernel_rfl) (by kernel_rfl) (e := Extern.SlicesOverlaps.overlaps #[72, 72] #[4]) (by kernel_rfl),
    Lib.run_overlaps_apart w 72 4 77 Try.underlying72 7 Try.sizeSpace ⟨va, 0, none⟩ ⟨vb, o, none⟩ n c lb cb hne t t' ca.size cc.size (by simp [World.shape?, ha]) (by simp [World.shape?, hb]) hcc (by simp [World.frozen?, ha]) (by simp [World.frozen?, ha])]
  rfl
section
variable {w : World} {F G : Nat → Prop} {n c i g base vb : Nat}
set_option maxRecDepth 100000 in
set_option maxHeartbeats 1000000 in
theorem insert_room {xs : List Space} {y : Space} {vs : List Value} (h : Own Enc.space 77 w base F (.slice (some ⟨g, 0, none⟩) n c) xs) (hi : i < n) (hnc : n < c) (hn : n ≤ 100) (hv : w.heap[vb]? = some (.cells vs.toArray 77)) (hy : Enc.space.rel w G vs y)
    (hG : ¬ G g) (hvg : vb ≠ g) :
    Calls Try.prog 91 #[.slice (some ⟨g, 0, none⟩) n c, .int .i64 i, .slice (some ⟨vb, 0, none⟩) 1 1] w fun e w' => ∃ v, e = .returned v ∧ Own Enc.space 77 w' base (fun b => F b ∨ (G b ∧ b < w.heap.size)) v (xs.take i ++ y :: xs.drop i) ∧ w.grownBy w' (some g) := by
  have hln := h.len
  have hcm : c ≤ 9223372036854775807 := by
    obtain ⟨A', c', e', -, ⟨hcm, -⟩, -⟩ := h.form
    cases e'; exact hcm
  have HFZ := Lib.hid fun o => h.froz o
  have HH := Lib.hid h
  obtain ⟨cells, ho, hr, hng, hlt⟩ := h
  rw [hln] at ho
  obtain ⟨ex, hex, ho1⟩ := owns_extend ho hnc
  have hcl := ho.1
  have hvl := Enc.space.len hy
  obtain ⟨cur, hg⟩ : ∃ cur, w.heap[g]? = some (.cells cur 77 (0, 0)) ∧ cur.size ≠ 0 := by
    rcases ho.2 with ⟨h0, _⟩ | ⟨g', cap', cur, h', hb, hg, hnc', hcm', hcs, htake⟩
    · simp at h0
    · simp only [Value.slice.injEq, Option.some.injEq, Addr.mk.injEq, and_true, true_and] at h'
      obtain ⟨rfl, rfl⟩ := h'
      exact ⟨cur, hg, by rw [hcs]; show c * 7 ≠ 0; omega⟩
  obtain ⟨hg, hcur⟩ := hg
  have hov := fun (o lb cb : Nat) => overlaps_spaces w (a := 0) (o := o) (lb := lb) (cb := cb) hvg hv hg hcur 1 1 rfl
  have hsp : ∀ j, j < (n + 1) * 7 → (w.cell? ⟨g, j, none⟩).isSome = true := fun j hj => by
    rw [ho1.cellAt j hj, List.getElem?_eq_getElem (by rw [List.length_append, hcl, hex]; show j < n * 7 + 7; omega)]; rfl
  have hdl : (cells.drop (i * 7)).length = (n - i) * 7 := by rw [List.length_drop, hcl]; show n * 7 - i * 7 = _; omega
  have h1c : ∀ v ∈ cells, v.oneCell' = true := by
    intro v hv'
    obtain ⟨k, hk, rfl⟩ := List.getElem_of_mem hv'
    rw [hcl] at hk
    have hk' : k < n * 7 := hk
    have hj : k / 7 < xs.length := by omega
    have := hr (k / 7) _ (List.getElem?_eq_getElem hj)
    refine Enc.space.one this _ ?_
    rw [List.mem_iff_getElem?]
    refine ⟨k % 7, ?_⟩
    show ((cells.drop (k / 7 * 7)).take 7)[k % 7]? = _
    rw [List.getElem?_take_of_lt (Nat.mod_lt _ (by omega)), List.getElem?_drop, show k / 7 * 7 + k % 7 = k by omega, List.getElem?_eq_getElem]
  have hcp1 : ∀ ty dc sc, (Builtin.copy_ #[72, 72] ty #[.slice (some ⟨g, (i + 1) * 7, none⟩) (n - i) dc, .slice (some ⟨g, i * 7, none⟩) (n + 1 - i) sc]).run Try.prog w.drew = .ok (goInt (n - i)) (w.drew.setCells g ((i + 1) * 7) (cells.drop (i * 7))) := fun ty dc sc => by
    have := run_copy_sized (P := Try.prog) w.drew 72 72 ty 77 g ((i + 1) * 7) (n - i) dc ⟨g, i * 7, none⟩ (n + 1 - i) sc 7 (cells.drop (i * 7)) Try.underlying72 Try.size1Space (by rw [hdl]; simp only [Nat.min_def]; split <;> omega)
      (fun j v hj => by
        rw [List.getElem?_drop] at hj
        have hjl := (List.getElem?_eq_some_iff.1 hj).1
        rw [add_off, show w.drew.cell? ⟨g, i * 7 + j, none⟩ = w.cell? ⟨g, i * 7 + j, none⟩ from rfl, ho.cellAt _ (by rw [← hcl]; exact hjl), hj])
      (fun j hj => by rw [hdl] at hj; exact hsp _ (by omega)) (fun j hj => HFZ.out _) (fun v hv => h1c v (List.mem_of_mem_drop hv))
    rw [this]
    congr 2
    simp only [Nat.min_def]; split <;> omega
  obtain ⟨W1, hW1⟩ : ∃ W1, W1 = w.drew.setCells g ((i + 1) * 7) (cells.drop (i * 7)) := ⟨_, rfl⟩
  have hsz7 : Enc.space.size = 7 := rfl
  have ho2 : W1.ownsRow base 77 Enc.space.size (.slice (some ⟨g, 0, none⟩) (n + 1) c) (n + 1) (setSeg (cells ++ ex) ((i + 1) * 7) (cells.drop (i * 7))) := by
    rw [hW1]; exact owns_setCells (w := w.drew) _ _ ho1
  have hch1 : Ch g w W1 := by rw [hW1]; exact ((Ch.refl g w).drewN 1).trans (ch_setCells _ _ _)
  have hcp2 : ∀ ty dc, (Builtin.copy_ #[72, 72] ty #[.slice (some ⟨g, i * 7, none⟩) (n + 1 - i) dc, .slice (some ⟨vb, 0, none⟩) 1 1]).run Try.prog W1 = .ok (goInt 1) (W1.setCells g (i * 7) vs) := fun ty dc => by
    have := run_copy_sized (P := Try.prog) W1 72 72 ty 77 g (i * 7) (n + 1 - i) dc ⟨vb, 0, none⟩ 1 1 7 vs Try.underlying72 Try.size1Space (by rw [hvl, hsz7]; simp only [Nat.min_def]; split <;> omega)
      (fun j v hj => by
        rw [add_plain, hch1.cell (p := ⟨vb, j, none⟩) (lt_of_block hv) hvg]
        simp [World.cell?, hv, hj])
      (fun j hj => by
        rw [hvl, hsz7] at hj
        rw [ho2.cellAt _ (by rw [hsz7]; omega), List.getElem?_eq_getElem (by rw [setSeg_length, List.length_append, hcl, hex, hsz7]; omega)]; rfl)
      (fun j hj => ho2.frozenAt _) (fun v hv => Enc.space.one hy v hv)
    rw [this]
    congr 2
    simp only [Nat.min_def]; split <;> omega
  have ho3 := owns_setCells (w := W1) vs (i * 7) ho2
  have hseg : setSeg (setSeg (cells ++ ex) ((i + 1) * 7) (cells.drop (i * 7))) (i * 7) vs = cells.take (i * 7) ++ (vs ++ cells.drop (i * 7)) := by
    have := seg_insert (size := 7) (n := n) (i := i) (cells := cells) (ex := ex) (vs := vs) hcl (Nat.le_of_eq hex.symm) hvl (by omega)
    rwa [List.take_of_length_le (by rw [setSeg_length, setSeg_length, List.length_append, hcl, hex, hsz7]; omega)] at this
  rw [hseg] at ho3
  have hch2 := hch1.trans (ch_setCells (g := g) vs W1 (i * 7))
  have hl2 : (xs.take i ++ y :: xs.drop i).length = n + 1 := by simp; omega
  have HFIN : Hid (Own Enc.space 77 (W1.setCells g (i * 7) vs) base (fun b => F b ∨ (G b ∧ b < w.heap.size)) (.slice (some ⟨g, 0, none⟩) (n + 1) c) (xs.take i ++ y :: xs.drop i)) := Lib.hid (by
    have hk : KeepF w (W1.setCells g (i * 7) vs) F (fun b => F b ∨ (G b ∧ b < w.heap.size)) := fun b hb hl => ⟨hch2.block b hl.lt (fun e => hng g rfl (e ▸ hb)), .inl hb⟩
    have hk' : KeepF w (W1.setCells g (i * 7) vs) G (fun b => F b ∨ (G b ∧ b < w.heap.size)) := fun b hb hl => ⟨hch2.block b hl.lt (fun e => hG (e ▸ hb)), .inr ⟨hb, hl.lt⟩⟩
    refine ⟨_, by rw [hl2]; exact ho3, insert_rel (R := fun us x => Enc.space.rel (W1.setCells g (i * 7) vs) (fun b => F b ∨ (G b ∧ b < w.heap.size)) us x) (size := 7) (by omega) hcl hln hvl (by omega) (fun j x hx => Enc.space.keep (hr j x hx) hk) (Enc.space.keep hy hk'), fun g' hg' hb => ?_, fun b hb => ?_⟩
    · cases hg'
      rcases hb with hb | hb
      · exact hng g rfl hb
      · exact hG hb.1
    · have := hch2.size
      rcases hb with hb | hb
      · have := hlt b hb; omega
      · have := hb.2; omega)
  have HG2 : Hid (w.grownBy (W1.setCells g (i * 7) vs) (some g)) := Lib.hid ⟨hch2.os, hch2.tape, hch2.output, hch2.size, fun k hk hne => hch2.block k hk (fun e => hne (by rw [e]))⟩
  rw [← hW1] at hcp1
  have HC1 := Lib.hid hcp1
  have HC2 := Lib.hid hcp2
  clear ho ho1 ho2 ho3 hcl hvl hex hdl h1c hr hng hlt hln hsp hch1 hch2 hW1 hl2 hcp1 hcp2 HH hsz7 hy hv hg
  go_enter Try.func91, Try.ntmps91
  go_wp2_with (simp only [hov])
  have hw1 : IntKind.i64.wrap ((i : Int) + 1) = (i : Int) + 1 := IntWalk.i64_in _ (by omega)
  have hb1 : (0 : Int) ≤ (i : Int) + 1 := by omega
  have hin : i ≤ n := by omega
  have htn : ((i : Int) + 1).toNat = i + 1 := by omega
  have hb2 : ¬ (c = i + 1) := by omega
  have hb3 : (i : Int) ≤ (n : Int) := by omega
  have hb4 : ¬ (c = i) := by omega
  have hb5 : (i : Int) ≤ (n : Int) + 1 := by omega
  have hb6 : ¬ (i = c) := by omega
  have hb7 : ¬ (i + 1 = c) := by omega
  have hcp1 := HC1.out
  go_region_law (refine step_copy_runI rfl _ _ 72 72 rfl _ _ (by simp [Act.eval, Act.put]) (by simp [Act.eval, Act.put]) (hcp1 _ _ _) ?_)
  have hcp2 := HC2.out
  clear hcp1 hov
  go_wp2_with (at_builtin; refine wpList_copy_runI _ rfl _ _ 72 72 rfl _ _ rfl rfl (hcp2 _ _) ?_)
  all_goals
    go_ret
    exact ⟨_, rfl, HFIN.out, HG2.out⟩
end
end Go.Proofs.Ytdgcfgiedclmcaa
