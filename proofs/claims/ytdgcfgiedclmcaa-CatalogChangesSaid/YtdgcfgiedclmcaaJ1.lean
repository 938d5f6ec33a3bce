/- Contract: slices.Delete of one space. -/
import Derived.Test.YtdgcfgiedclmcaaH8
import Derived.Test.YtdgcfgiedclmcaaH9
import Derived.Deep.RegionLaw
namespace Go.Proofs.Ytdgcfgiedclmcaa
open Go.RowKit

section
variable {w : World} {F : Nat → Prop} {n c i g base : Nat}
theorem own_shift {ws : List Space} (h : Own Enc.space 77 w base F (.slice (some ⟨g, 0, none⟩) n c) ws) (hi : i < n) (cells : List Value) (ho : w.ownsRow base 77 7 (.slice (some ⟨g, 0, none⟩) n c) n cells)
    (hr : ∀ j x, ws[j]? = some x → Enc.space.rel w F ((cells.drop (j * 7)).take 7) x) :
    Own Enc.space 77 (w.drew.setCells g (i * 7) (cells.drop ((i + 1) * 7))) base F (.slice (some ⟨g, 0, none⟩) (n - 1) c) (ws.eraseIdx i) := by
  have hln := h.len
  have hng := h.not g rfl
  have hlt := h.lt
  have hcl : cells.length = n * 7 := ho.1
  have hch : Ch g w (w.drew.setCells g (i * 7) (cells.drop ((i + 1) * 7))) := ((Ch.refl g w).drewN 1).trans (ch_setCells _ _ _)
  have hq := owns_setCells (w := w.drew) (cells.drop ((i + 1) * 7)) (i * 7) ho
  have hl1 : (ws.eraseIdx i).length = n - 1 := by rw [List.length_eraseIdx]; split <;> omega
  obtain ⟨cs', hcs'⟩ : ∃ cs', cs' = setSeg cells (i * 7) (cells.drop ((i + 1) * 7)) := ⟨_, rfl⟩
  have hget : ∀ q, cs'[q]? = if i * 7 ≤ q ∧ q < (n - 1) * 7 then cells[q + 7]? else cells[q]? := fun q => by
    rw [hcs', setSeg_get, List.length_drop, hcl]
    by_cases h1 : i * 7 ≤ q ∧ q < (n - 1) * 7
    · rw [if_pos h1, if_pos (by omega), List.getElem?_drop]; congr 1; omega
    · rw [if_neg h1, if_neg (by omega)]
  rw [← hcs'] at hq
  clear hcs'
  rcases hq.2 with ⟨h0, _⟩ | ⟨g', cap', cur, h', hb, hg, hnc, hcm, hcs, htake⟩
  · simp at h0
  · simp only [Value.slice.injEq, Option.some.injEq, Addr.mk.injEq, and_true, true_and] at h'
    obtain ⟨rfl, rfl⟩ := h'
    refine ⟨cs'.take ((n - 1) * 7), ⟨by rw [hl1, List.length_take, hq.1]; show min _ (n * 7) = (n - 1) * 7; omega, .inr ⟨g, c, cur, by rw [hl1], hb, hg, by omega, hcm, hcs, by rw [hl1, ← htake, List.take_take]; congr 1; show (n - 1) * 7 = min ((n - 1) * 7) (n * 7); omega⟩⟩, fun k x hx => ?_, fun g' hg' => by cases hg'; exact hng, fun b hb => Nat.lt_of_lt_of_le (hlt b hb) hch.size⟩
    have hk := (List.getElem?_eq_some_iff.1 hx).1
    rw [hl1] at hk
    have hE : (((cs'.take ((n - 1) * 7)).drop (k * 7)).take 7) = (cells.drop ((if k < i then k else k + 1) * 7)).take 7 := by
      apply List.ext_getElem?
      intro j
      by_cases hj : j < 7
      · rw [List.getElem?_take_of_lt hj, List.getElem?_take_of_lt hj, List.getElem?_drop, List.getElem?_drop, List.getElem?_take_of_lt (by omega), hget]
        by_cases hki : k < i
        · rw [if_neg (by omega), if_pos hki]
        · rw [if_pos (by omega), if_neg hki]; congr 1; omega
      · rw [List.getElem?_eq_none (by rw [List.length_take]; omega), List.getElem?_eq_none (by rw [List.length_take]; omega)]
    show Enc.space.rel _ F (((cs'.take ((n - 1) * 7)).drop (k * 7)).take 7) x
    rw [hE]
    refine Enc.space.keep (hr _ x ?_) (.ch hch fun b hb e => hng (e ▸ hb))
    rw [← hx, List.getElem?_eraseIdx]
    split <;> rfl

set_option maxRecDepth 100000 in
set_option maxHeartbeats 1000000 in
theorem delete_one {ws : List Space} (h : Own Enc.space 77 w base F (.slice (some ⟨g, 0, none⟩) n c) ws) (hi : i < n) (hn : n ≤ 1000000) :
    Calls Try.prog 93 #[.slice (some ⟨g, 0, none⟩) n c, .int .i64 i, .int .i64 ((i : Int) + 1)] w fun e w' => ∃ v, e = .returned v ∧ Own Enc.space 77 w' base F v (ws.eraseIdx i) ∧ Ch g w w' := by
  have hln := h.len
  have hgl : g < w.heap.size := (h.blk rfl).2
  obtain ⟨A', c', e', hnc, ⟨hcm, -⟩, -⟩ := h.form
  rw [hln] at e' hnc
  cases e'
  have HFZ := Lib.hid fun o => h.froz o
  have HHS := Lib.hid fun (o : Nat) (ho : o < n * 7) => h.has (o := o) ho
  obtain ⟨cells, ho, hr, hng, hlt⟩ := id h
  rw [hln] at ho
  have hcl : cells.length = n * 7 := ho.1
  have HOS := Lib.hid (own_shift h hi cells ho hr)
  have h1c : ∀ v ∈ cells.drop ((i + 1) * 7), v.oneCell' = true := by
    intro v hv''
    have hv' := List.mem_of_mem_drop hv''
    obtain ⟨k, hk, rfl⟩ := List.getElem_of_mem hv'
    rw [hcl] at hk
    have hj : k / 7 < ws.length := by omega
    have := hr (k / 7) _ (List.getElem?_eq_getElem hj)
    refine Enc.space.one this _ ?_
    rw [List.mem_iff_getElem?]
    refine ⟨k % 7, ?_⟩
    show ((cells.drop (k / 7 * 7)).take 7)[k % 7]? = _
    rw [List.getElem?_take_of_lt (Nat.mod_lt _ (by omega)), List.getElem?_drop, show k / 7 * 7 + k % 7 = k by omega, List.getElem?_eq_getElem]
  obtain ⟨i0, hi0, hz0, hz1, hz2⟩ := info_parts Try.infoSpace
  have hnl : (cells.drop ((i + 1) * 7)).length = (n - (i + 1)) * 7 := by rw [List.length_drop, hcl]; omega
  have hnew : ∀ j u, (cells.drop ((i + 1) * 7))[j]? = some u → w.drew.cell? ((⟨g, (i + 1) * 7, none⟩ : Addr).add j) = some u := fun j u hj => by
    rw [List.getElem?_drop] at hj
    have hjl := (List.getElem?_eq_some_iff.1 hj).1
    rw [add_off, show w.drew.cell? ⟨g, (i + 1) * 7 + j, none⟩ = w.cell? ⟨g, (i + 1) * 7 + j, none⟩ from rfl, ho.cellAt _ (by show _ < n * 7; omega), hj]
  have hspare : ∀ j, j < (cells.drop ((i + 1) * 7)).length → (w.drew.cell? ⟨g, 0 + i * 7 + j, none⟩).isSome = true ∧ w.drew.frozen? ⟨g, 0 + i * 7 + j, none⟩ = false := fun j hj => by
    rw [hnl] at hj
    exact ⟨HHS.out _ (by omega), HFZ.out _⟩
  obtain ⟨news, hnews⟩ : ∃ news, news = cells.drop ((i + 1) * 7) := ⟨_, rfl⟩
  rw [← hnews] at HOS h1c hnl hnew hspare
  have HNL := Lib.hid hnl
  have HNW : Hid (∀ ad : Addr, (c ≠ i + 1 → ad = ⟨g, (i + 1) * 7, none⟩) → ∀ j u, news[j]? = some u → w.drew.cell? (ad.add j) = some u) := Lib.hid fun ad had j u hj => by
    by_cases hce : c = i + 1
    · have hj' := (List.getElem?_eq_some_iff.1 hj).1
      rw [hnl] at hj'
      omega
    · rw [had hce]; exact hnew j u hj
  have HSP := Lib.hid hspare
  have H1C := Lib.hid h1c
  have hch : Ch g w (w.drew.setCells g (i * 7) news) := ((Ch.refl g w).drewN 1).trans (ch_setCells _ _ _)
  have hq := owns_setCells (w := w.drew) news (i * 7) ho
  have hsome : ∀ q, q < 1 * 7 → ((w.drew.setCells g (i * 7) news).cell? ⟨g, (n - 1) * 7 + q, none⟩).isSome = true := fun q hq' => by
    rw [hq.cellAt _ (by show _ < n * 7; omega), List.getElem?_eq_getElem (by rw [setSeg_length, hcl]; omega)]; rfl
  obtain ⟨vs, hclr⟩ := run_clear_cells (P := Try.prog) (w.drew.setCells g (i * 7) news) 72 77 0 _ Try.underlying72 zeroSpace (by decide) g ((n - 1) * 7) 1 (c - (n - 1)) (by omega) hsome (fun q => hq.frozenAt q)
  have HFIN : Hid (Own Enc.space 77 ((w.drew.setCells g (i * 7) news).setCells g ((n - 1) * 7) vs) base F (.slice (some ⟨g, 0, none⟩) (n - 1) c) (ws.eraseIdx i)) := Lib.hid (HOS.out.behind (Nat.le_refl _) vs)
  have HCH := Lib.hid (hch.trans (ch_setCells (g := g) vs _ ((n - 1) * 7)))
  obtain ⟨W1, hW1⟩ : ∃ W1, W1 = w.drew.setCells g (i * 7) news := ⟨_, rfl⟩
  rw [← hW1] at hclr HFIN HCH
  have HW1 := Lib.hid hW1
  have HI0 := Lib.hid hi0
  have HZ1 := Lib.hid hz1
  have hw1 : IntKind.i64.wrap ((i : Int) + 1) = (i : Int) + 1 := IntWalk.i64_in _ (by omega)
  have hb1 : (0 : Int) ≤ (i : Int) + 1 := by omega
  have hb2 : (i : Int) + 1 ≤ (n : Int) := by omega
  have hb3 : ((i : Int) + 1).toNat = i + 1 := by omega
  have hb4 : ¬ ((i : Int) = (i : Int) + 1) := by omega
  have hb5 : (i : Int) ≤ (i : Int) + 1 := by omega
  have hb6 : i + 1 ≤ n := by omega
  have hb7 : i ≤ c := by omega
  have hb8 : i + 1 ≤ c := by omega
  have hb9 : (i : Int) ≤ (c : Int) := by omega
  have hb10 : i + (n - (i + 1)) = n - 1 := by omega
  clear h ho hr hng hlt hcl hnews hnl hnew hspare h1c hch hq hsome hW1 hi0 hz0 hz1 hz2 HOS HHS
  have hb11 : ¬ (c = n - 1) := by omega
  have hb12 : n - 1 ≤ n := by omega
  have hb13 : n ≤ c := hnc
  have hb14 : ¬ (c = i) := by omega
  have hb15 : n - (n - 1) = 1 := by omega
  have hclr' : ∀ ty, (Builtin.clear_ #[72] ty #[.slice (some ⟨g, (n - 1) * 7, none⟩) 1 (c - (n - 1))]).run Try.prog W1 = .ok (.tuple #[]) (W1.setCells g ((n - 1) * 7) vs) := fun ty => hclr
  have HCL := Lib.hid hclr'
  clear hclr hclr'
  by_cases hce : c = i + 1
  · obtain rfl : n = i + 1 := by omega
    subst hce
    have hcl2 : ∀ ty, (Builtin.clear_ #[72] ty #[.slice (some ⟨g, i * 7, none⟩) 1 1]).run Try.prog W1 = .ok (.tuple #[]) (W1.setCells g (i * 7) vs) := fun ty => by
      have := HCL.out ty
      simpa using this
    have hnl0 : news.length = 0 * 7 := by have := HNL.out; simpa using this
    go_enter Try.func93, Try.ntmps93
    go_wp2_with fail
    go_region_law (refine step_append_room rfl _ _ 72 rfl 77 i0 7 Try.underlying72 HI0.out HZ1.out g 0 i (i + 1) (by simp [Act.eval, Act.put]) ⟨g, 0, none⟩ 0 0 news (by simp [Act.eval, Act.put]) hnl0 (HNW.out _ (fun h => absurd rfl h)) H1C.out (by omega) HSP.out ?_)
    rw [← HW1.out]
    go_wp2
    go_ret
    exact ⟨_, rfl, HFIN.out, HCH.out⟩
  · go_enter Try.func93, Try.ntmps93
    go_wp2_with fail
    go_region_law (refine step_append_room rfl _ _ 72 rfl 77 i0 7 Try.underlying72 HI0.out HZ1.out g 0 i c (by simp [Act.eval, Act.put]) ⟨g, (i + 1) * 7, none⟩ (n - (i + 1)) (c - (i + 1)) news (by simp [Act.eval, Act.put]) HNL.out (HNW.out _ (fun _ => rfl)) H1C.out (by omega) HSP.out ?_)
    rw [← HW1.out]
    have hclr' := HCL.out
    go_wp2
    go_ret
    exact ⟨_, rfl, HFIN.out, HCH.out⟩
end
end Go.Proofs.Ytdgcfgiedclmcaa
