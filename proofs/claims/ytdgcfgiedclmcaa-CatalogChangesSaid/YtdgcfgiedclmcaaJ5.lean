/- The walk of the law CatalogChanges. -/
import Derived.Test.YtdgcfgiedclmcaaJ4
import Derived.Test.YtdgcfgiedclmcaaI7
import Derived.Deep.Cut
namespace Go.Proofs.Ytdgcfgiedclmcaa
open Go.RowKit
theorem rel_to {w5 wr W : World} {B fl : Nat} {xs : List Value} {x : Space} (h : Enc.space.rel wr (fun b => b < fl) xs x) (d1 : Below B w5 wr) (d2 : Below B w5 W) (hf : fl ≤ B) : Enc.space.rel W (fun b => b < fl) xs x :=
  Enc.space.keep h fun b hb _ => ⟨(d2.block b (Nat.lt_of_lt_of_le hb hf)).trans (d1.block b (Nat.lt_of_lt_of_le hb hf)).symm, hb⟩
section
variable {w : World} {A : Option Addr} {n c : Nat}
set_option maxRecDepth 100000 in
set_option maxHeartbeats 4000000 in
theorem changes_law {l : List Space} (h : Sl Enc.space w (fun b => b < w.heap.size) A n c l) {y : Space} {ysA : Array Value} (hy : Enc.space.rel w (fun b => b < w.heap.size) ysA.toList y) (most : Int) (_ : (Lit.int .i64 most).wf = true) :
    Calls Try.prog 10 #[.slice A n c, .agg ysA, .int .i64 most] w fun e w' => e = .returned (.bool true) ∧ Below w.heap.size w w' := by
  obtain ⟨ys, rfl⟩ : ∃ ys : List Value, ysA = ys.toArray := ⟨ysA.toList, by simp⟩
  rw [List.toList_toArray] at hy
  have hln := h.len
  have HS := Lib.hid h
  have HY := Lib.hid hy
  obtain ⟨Ar, nr, cr, Ae, ce, At, ct, As, cs, rfl, -⟩ := hy
  obtain ⟨yi, hyi⟩ : ∃ yi, y.id = yi := ⟨_, rfl⟩
  rw [hyi] at HY ⊢
  have HYI := Lib.hid hyi
  clear hyi h
  obtain ⟨w0, hw0⟩ : ∃ w0, w0 = w.alloc (.cells #[.int .i64 yi, .int .i64 y.tenant, .int .i64 y.sectors, .slice Ar nr cr, .slice Ae y.ext ce, .slice At y.tree ct, .slice As y.sums cs] 77) := ⟨_, rfl⟩
  have hb0 : Below w.heap.size w w0 := by rw [hw0]; exact (Below.refl _ w).alloc (Nat.le_refl _) _
  have hh0 : w0.heap[w.heap.size]? = some (.cells #[.int .i64 yi, .int .i64 y.tenant, .int .i64 y.sectors, .slice Ar nr cr, .slice Ae y.ext ce, .slice At y.tree ct, .slice As y.sums cs] 77 (0, 0)) := by rw [hw0]; exact heap_alloc_new w _
  have hs0 : w.heap.size < w0.heap.size := (Array.getElem?_eq_some_iff.1 hh0).1
  have HA := Lib.hid (law_awake w0)
  have HFW := Lib.hid fun (W : World) (hb : Below w.heap.size w W) => few_spaces (HS.out.all hb)
  go_enter Try.func10, Try.ntmps10
  go_wp2_with fail
  simp only [← hw0]
  clear hw0
  refine HA.out.mono ?_
  rintro e w1 ⟨rfl, hb1⟩
  have hB1 := hb0.trans (hb1.mono (by omega))
  have HF1 := Lib.hid (HFW.out w1 hB1)
  go_wp2_with fail
  refine HF1.out.mono ?_
  rintro e w2 ⟨rfl, hb2⟩
  have hB2 := hB1.trans (hb2.mono hB1.size)
  have hh2 := (hb2.block _ (by have := hb1.size; omega)).trans ((hb1.block _ hs0).trans hh0)
  clear HA HFW HF1 hB1
  cases hfw : (l.all fewSpace && decide (l.length ≤ 40)) with
  | false =>
    clear hfw
    go_wp2
    go_ret
    exact ⟨rfl, hB2⟩
  | true =>
    have hn40 : n ≤ 40 := by
      simp only [Bool.and_eq_true, decide_eq_true_eq] at hfw
      omega
    clear hfw
    have HB2 := Lib.hid hB2
    have hl2 : w.heap.size < w2.heap.size := (Array.getElem?_eq_some_iff.1 hh2).1
    have hal2 : Below w2.heap.size w2 (w2.alloc (.cells #[.int .i64 yi, .int .i64 y.tenant, .int .i64 y.sectors, .slice Ar nr cr, .slice Ae y.ext ce, .slice At y.tree ct, .slice As y.sums cs] 77)) := (Below.refl _ w2).alloc (Nat.le_refl _) _
    have HFY := Lib.hid (few_spaces (Sl.ofBlk (F := fun k => k < w.heap.size ∨ k = w2.heap.size) (heap_alloc_new w2 (.cells #[.int .i64 yi, .int .i64 y.tenant, .int .i64 y.sectors, .slice Ar nr cr, .slice Ae y.ext ce, .slice At y.tree ct, .slice As y.sums cs] 77)) (Enc.space.keep HY.out (.all (hB2.trans (hal2.mono hB2.size)) _)) (.inr rfl) (fun k hk => .inl hk)))
    have HAL2 := Lib.hid hal2
    have HH2 := Lib.hid hh2
    obtain ⟨z0, z1, z2, z3, z4, z5, z6⟩ := cells7 hh2
    clear hB2 hb0 hh0 hs0 hb1 hb2 hh2 hal2
    go_wp2_with fail
    refine HFY.out.mono ?_
    rintro e w4 ⟨rfl, hb4⟩
    have HE4 := Lib.hid (HAL2.out.trans (hb4.mono HAL2.out.size))
    have HH4 := Lib.hid ((HE4.out.block _ hl2).trans HH2.out)
    have HB4 := Lib.hid (HB2.out.trans (HE4.out.mono HB2.out.size))
    have hl4 : w.heap.size < w4.heap.size := (Array.getElem?_eq_some_iff.1 HH4.out).1
    clear hb4 HFY z0 z1 z2 z3 z4 z5 z6 HH2 HB2 HAL2 HE4 hl2
    cases hfy : ([y].all fewSpace && decide ([y].length ≤ 40)) with
    | false =>
      clear hfy
      go_wp2
      go_ret
      exact ⟨rfl, HB4.out⟩
    | true =>
      clear hfy
      have HSW := Lib.hid (HS.out.keep (.all (HB4.out.trans (((Below.refl _ w4).alloc (Nat.le_refl _) (.cells #[] 77)).mono HB4.out.size)) _))
      go_wp2_with (at_builtin; refine wpl_app (e := Enc.space) rfl _ _ 72 rfl Try.underlying72 Try.infoSpace rfl rfl rfl (Own.litNil _ _ w4 w4.heap.size (Nat.le_refl _)) HSW.out.sr (fun g hg hb => by cases hg; have hb2 : w4.heap.size < w.heap.size := hb; omega) (by simp) (by omega) (by simp; omega) ?_; intro v7 w5 ho7 hg7 hat7 _)
      have HW4 := Lib.hid (((Below.refl w4.heap.size w4).alloc (Nat.le_refl _) (.cells #[] 77)).grown hg7 (by simp) (fun g hg => by cases hg; exact Nat.le_refl _))
      simp only [List.nil_append] at ho7
      have HO7 : Hid (Own Enc.space 77 w5 w4.heap.size (fun k => k < w.heap.size) v7 l) := Lib.hid (ho7.weaken (fun b hb => hb.elim (fun h => h.elim) (·.1)) (fun g hg => by have := (ho7.blk hg).1; omega) (fun b hb => by have := HW4.out.size; omega))
      have HB5 := Lib.hid (HB4.out.trans (HW4.out.mono HB4.out.size))
      have HH5 := Lib.hid ((HW4.out.block _ hl4).trans HH4.out)
      have hl5 : w.heap.size < w5.heap.size := (Array.getElem?_eq_some_iff.1 HH5.out).1
      clear ho7 hg7 hat7 HSW HW4 HH4 HB4 hl4
      go_loopw [8, 9, 10, 11, 12, 38] (fun at_ v9 v10 v11 dn i wr => ∃ k : Nat, k ≤ n ∧ i = .int .i64 k ∧ at_ = .int .i64 (atTo l yi k) ∧ dn = .bool (wTo l y k).1 ∧ Three wr w5.heap.size w.heap.size v9 v10 v11 (wTo l y k).2 ((l.take k).filter fun x => !(x.id == yi)) ((l.take k).map fun x => if x.id = yi then y else x) ∧ Below w5.heap.size w5 wr) (fun _ _ _ _ _ i _ => n - (intOf i).toNat)
      case atStart => exact ⟨0, by omega, by simp, by simp [atTo], by simp [wTo], Three.nil _ _ _ (by omega), .refl _ _⟩
      case round =>
        obtain ⟨k, hk, rfl, rfl, rfl, hT, hd⟩ := hrel
        have hsz := hd.size
        by_cases hlt : k < n
        · have hka : k < l.length := by omega
          have HBR := Lib.hid (HB5.out.trans (hd.mono HB5.out.size))
          obtain ⟨ad, Ax, nx, cx, Axe, cxe, Axt, cxt, Axs, cxs, rfl, a0, a1, a2, a3, a4, a5, a6, ra⟩ := (HS.out.all HBR.out).space k hka
          obtain ⟨i0, hi0⟩ : ∃ i0, l[k].id = i0 := ⟨_, rfl⟩
          have hWT : wTo l y (k + 1) = if (wTo l y k).1 = false ∧ yi < i0 then (true, (wTo l y k).2 ++ [y] ++ [l[k]]) else ((wTo l y k).1, (wTo l y k).2 ++ [l[k]]) := by
            show (if (wTo l y k).1 = false ∧ y.id < (l.getD k space0).id then (true, (wTo l y k).2 ++ [y] ++ [l.getD k space0]) else ((wTo l y k).1, (wTo l y k).2 ++ [l.getD k space0])) = _
            rw [getD_at hka, HYI.out, hi0]
          have hAT : atTo l yi (k + 1) = if i0 = yi then (k : Int) else atTo l yi k := by
            show (if (l.getD k space0).id = yi then (k : Int) else atTo l yi k) = _
            rw [getD_at hka, hi0]
          have hFT : (l.take (k + 1)).filter (fun x => !(x.id == yi)) = (l.take k).filter (fun x => !(x.id == yi)) ++ (if i0 = yi then [] else [l[k]]) := by
            rw [filter_succ hka, hi0]
            by_cases he : i0 = yi <;> simp [he]
          have hMT : (l.take (k + 1)).map (fun x => if x.id = yi then y else x) = (l.take k).map (fun x => if x.id = yi then y else x) ++ [if i0 = yi then y else l[k]] := by
            rw [List.take_succ_eq_append_getElem hka, List.map_append, List.map_cons, List.map_nil, hi0]
          have hLW := wTo_len l y k
          have hLF : ((l.take k).filter fun x => !(x.id == yi)).length ≤ k := Nat.le_trans (List.length_filter_le _ _) (by rw [List.length_take]; omega)
          have hLM : ((l.take k).map fun x => if x.id = yi then y else x).length ≤ k := by rw [List.length_map, List.length_take]; omega
          rw [hi0] at a0 ra
          clear hi0
          generalize (l.take k).filter (fun x => !(x.id == yi)) = lf at *
          generalize (l.take k).map (fun x => if x.id = yi then y else x) = lm at *
          obtain ⟨d, lw, hdw⟩ : ∃ d lw, wTo l y k = (d, lw) := ⟨_, _, rfl⟩
          simp only [hdw] at hWT hLW hT ⊢
          clear hdw
          generalize atTo l yi k = at0 at *
          obtain ⟨hLW1, hLW2⟩ := hLW
          have HLW2 := Lib.hid hLW2
          have HWT := Lib.hid hWT; have HAT := Lib.hid hAT; have HFT := Lib.hid hFT; have HMT := Lib.hid hMT
          have HRX := Lib.hid ra
          have HRY := Lib.hid (Enc.space.keep HY.out (.all HBR.out _))
          have HDR := Lib.hid hd
          have HT := Lib.hid hT
          obtain ⟨we, hwe⟩ : ∃ we, we = wr.alloc (.cells #[.int .i64 i0, .int .i64 l[k].tenant, .int .i64 l[k].sectors, .slice Ax nx cx, .slice Axe l[k].ext cxe, .slice Axt l[k].tree cxt, .slice Axs l[k].sums cxs] 77) := ⟨_, rfl⟩
          have hbe : Below wr.heap.size wr we := by rw [hwe]; exact (Below.refl _ wr).alloc (Nat.le_refl _) _
          have S0 : St w5 we w5.heap.size w.heap.size wr.heap.size #[.int .i64 i0, .int .i64 l[k].tenant, .int .i64 l[k].sectors, .slice Ax nx cx, .slice Axe l[k].ext cxe, .slice Axt l[k].tree cxt, .slice Axs l[k].sums cxs] #[.int .i64 yi, .int .i64 y.tenant, .int .i64 y.sectors, .slice Ar nr cr, .slice Ae y.ext ce, .slice At y.tree ct, .slice As y.sums cs] u9 u10 u11 lw lf lm := ⟨hT.all hbe, hd.trans (hbe.mono hsz), by rw [hwe]; exact heap_alloc_new wr _, (hbe.block _ (by omega)).trans ((hd.block _ hl5).trans HH5.out), fun g hg e => by have := (hT.oa.blk hg).2; omega, fun g hg e => by have := (hT.ob.blk hg).2; omega, fun g hg e => by have := (hT.oc.blk hg).2; omega⟩
          have HS0 := Lib.hid S0
          clear hLW2 hWT hAT hFT hMT ra hT hd hbe S0
          cases d with
          | false =>
            by_cases hlty : yi < i0
            · have hgt : yi < i0 := hlty
              have hne : ¬ i0 = yi := by omega
              have HWT1 : Hid (wTo l y (k + 1) = (true, lw ++ [y] ++ [l[k]])) := Lib.hid (by rw [HWT.out, if_pos ⟨rfl, hlty⟩])
              have HAT1 : Hid (atTo l yi (k + 1) = at0) := Lib.hid (by rw [HAT.out, if_neg hne])
              have HFT1 : Hid ((l.take (k + 1)).filter (fun x => !(x.id == yi)) = lf ++ [l[k]]) := Lib.hid (by rw [HFT.out, if_neg hne])
              have HMT1 : Hid ((l.take (k + 1)).map (fun x => if x.id = yi then y else x) = lm ++ [l[k]]) := Lib.hid (by rw [HMT.out, if_neg hne])
              clear HWT HAT HFT HMT
              have hlw : lw.length ≤ k + 1 := hLW1
              have hlw2 : lw.length ≤ k := HLW2.out rfl
              go_upto_region 12 with (fail)
              simp only [← hwe]
              clear hwe
              have S0 := HS0.out
              clear HS0
              obtain ⟨z0, z1, z2, z3, z4, z5, z6⟩ := cells7 S0.x
              obtain ⟨y0, y1, y2, y3, y4, y5, y6⟩ := cells7 S0.y
              have hsz_wa := S0.d.size
              have hal : Below we.heap.size we (we.alloc (.cells #[.int .i64 yi, .int .i64 y.tenant, .int .i64 y.sectors, .slice Ar nr cr, .slice Ae y.ext ce, .slice At y.tree ct, .slice As y.sums cs] 77)) := (Below.refl _ we).alloc (Nat.le_refl _) _
              have HT1 := Lib.hid ((S0).t.all hal)
              have HR1 := Lib.hid (Sr.ofBlk (heap_alloc_new we (.cells #[.int .i64 yi, .int .i64 y.tenant, .int .i64 y.sectors, .slice Ar nr cr, .slice Ae y.ext ce, .slice At y.tree ct, .slice As y.sums cs] 77)) (Enc.space.keep (rel_to HRY.out HDR.out S0.d (by omega)) (.all hal _)))
              have HS1 := Lib.hid (S0)
              clear S0 hal
              go_upto_region 14 with (at_builtin; refine wpl_app (e := Enc.space) (E := 77) (base := w5.heap.size) rfl _ _ 72 rfl Try.underlying72 Try.infoSpace rfl rfl rfl HT1.out.oa HR1.out (HT1.out.nots (by omega)) (by simp; omega) (by omega) (by first | omega | (simp; omega)) ?_; intro vwa wa ho1 hg1 hat1 _)
              have S1 := (HS1.out.app (by omega) (Nat.le_refl _) #[.int .i64 yi, .int .i64 y.tenant, .int .i64 y.sectors, .slice Ar nr cr, .slice Ae y.ext ce, .slice At y.tree ct, .slice As y.sums cs] ho1 hg1 hat1)
              clear ho1 hg1 hat1 HT1 HR1 HS1 z0 z1 z2 z3 z4 z5 z6 y0 y1 y2 y3 y4 y5 y6
              obtain ⟨z0, z1, z2, z3, z4, z5, z6⟩ := cells7 S1.x
              obtain ⟨y0, y1, y2, y3, y4, y5, y6⟩ := cells7 S1.y
              have hsz_wb := S1.d.size
              have hal : Below wa.heap.size wa (wa.alloc (.cells #[.int .i64 i0, .int .i64 l[k].tenant, .int .i64 l[k].sectors, .slice Ax nx cx, .slice Axe l[k].ext cxe, .slice Axt l[k].tree cxt, .slice Axs l[k].sums cxs] 77)) := (Below.refl _ wa).alloc (Nat.le_refl _) _
              have HT1 := Lib.hid ((S1).t.all hal)
              have HR1 := Lib.hid (Sr.ofBlk (heap_alloc_new wa (.cells #[.int .i64 i0, .int .i64 l[k].tenant, .int .i64 l[k].sectors, .slice Ax nx cx, .slice Axe l[k].ext cxe, .slice Axt l[k].tree cxt, .slice Axs l[k].sums cxs] 77)) (Enc.space.keep (rel_to HRX.out HDR.out S1.d (by omega)) (.all hal _)))
              have HS1 := Lib.hid (S1)
              clear S1 hal
              go_upto_region 16 with (at_builtin; refine wpl_app (e := Enc.space) (E := 77) (base := w5.heap.size) rfl _ _ 72 rfl Try.underlying72 Try.infoSpace rfl rfl rfl HT1.out.oa HR1.out (HT1.out.nots (by omega)) (by simp; omega) (by omega) (by first | omega | (simp; omega)) ?_; intro vwb wb ho1 hg1 hat1 _)
              have S2 := (HS1.out.app (by omega) (Nat.le_refl _) #[.int .i64 i0, .int .i64 l[k].tenant, .int .i64 l[k].sectors, .slice Ax nx cx, .slice Axe l[k].ext cxe, .slice Axt l[k].tree cxt, .slice Axs l[k].sums cxs] ho1 hg1 hat1)
              clear ho1 hg1 hat1 HT1 HR1 HS1 z0 z1 z2 z3 z4 z5 z6 y0 y1 y2 y3 y4 y5 y6
              obtain ⟨z0, z1, z2, z3, z4, z5, z6⟩ := cells7 S2.x
              obtain ⟨y0, y1, y2, y3, y4, y5, y6⟩ := cells7 S2.y
              have hsz_wc := S2.d.size
              have hal : Below wb.heap.size wb (wb.alloc (.cells #[.int .i64 i0, .int .i64 l[k].tenant, .int .i64 l[k].sectors, .slice Ax nx cx, .slice Axe l[k].ext cxe, .slice Axt l[k].tree cxt, .slice Axs l[k].sums cxs] 77)) := (Below.refl _ wb).alloc (Nat.le_refl _) _
              have HT1 := Lib.hid ((S2.rot).t.all hal)
              have HR1 := Lib.hid (Sr.ofBlk (heap_alloc_new wb (.cells #[.int .i64 i0, .int .i64 l[k].tenant, .int .i64 l[k].sectors, .slice Ax nx cx, .slice Axe l[k].ext cxe, .slice Axt l[k].tree cxt, .slice Axs l[k].sums cxs] 77)) (Enc.space.keep (rel_to HRX.out HDR.out S2.d (by omega)) (.all hal _)))
              have HS1 := Lib.hid (S2.rot)
              clear S2 hal
              go_upto_region 20 with (at_builtin; refine wpl_app (e := Enc.space) (E := 77) (base := w5.heap.size) rfl _ _ 72 rfl Try.underlying72 Try.infoSpace rfl rfl rfl HT1.out.oa HR1.out (HT1.out.nots (by omega)) (by simp; omega) (by omega) (by first | omega | (simp; omega)) ?_; intro vwc wc ho1 hg1 hat1 _)
              have S3 := (HS1.out.app (by omega) (Nat.le_refl _) #[.int .i64 i0, .int .i64 l[k].tenant, .int .i64 l[k].sectors, .slice Ax nx cx, .slice Axe l[k].ext cxe, .slice Axt l[k].tree cxt, .slice Axs l[k].sums cxs] ho1 hg1 hat1).rot.rot
              clear ho1 hg1 hat1 HT1 HR1 HS1 z0 z1 z2 z3 z4 z5 z6 y0 y1 y2 y3 y4 y5 y6
              obtain ⟨z0, z1, z2, z3, z4, z5, z6⟩ := cells7 S3.x
              obtain ⟨y0, y1, y2, y3, y4, y5, y6⟩ := cells7 S3.y
              have hsz_wd := S3.d.size
              have hal : Below wc.heap.size wc (wc.alloc (.cells #[.int .i64 i0, .int .i64 l[k].tenant, .int .i64 l[k].sectors, .slice Ax nx cx, .slice Axe l[k].ext cxe, .slice Axt l[k].tree cxt, .slice Axs l[k].sums cxs] 77)) := (Below.refl _ wc).alloc (Nat.le_refl _) _
              have HT1 := Lib.hid ((S3.rot.rot).t.all hal)
              have HR1 := Lib.hid (Sr.ofBlk (heap_alloc_new wc (.cells #[.int .i64 i0, .int .i64 l[k].tenant, .int .i64 l[k].sectors, .slice Ax nx cx, .slice Axe l[k].ext cxe, .slice Axt l[k].tree cxt, .slice Axs l[k].sums cxs] 77)) (Enc.space.keep (rel_to HRX.out HDR.out S3.d (by omega)) (.all hal _)))
              have HS1 := Lib.hid (S3.rot.rot)
              clear S3 hal
              go_upto_region 21 with (at_builtin; refine wpl_app (e := Enc.space) (E := 77) (base := w5.heap.size) rfl _ _ 72 rfl Try.underlying72 Try.infoSpace rfl rfl rfl HT1.out.oa HR1.out (HT1.out.nots (by omega)) (by simp; omega) (by omega) (by first | omega | (simp; omega)) ?_; intro vwd wd ho1 hg1 hat1 _)
              have S4 := (HS1.out.app (by omega) (Nat.le_refl _) #[.int .i64 i0, .int .i64 l[k].tenant, .int .i64 l[k].sectors, .slice Ax nx cx, .slice Axe l[k].ext cxe, .slice Axt l[k].tree cxt, .slice Axs l[k].sums cxs] ho1 hg1 hat1).rot
              clear ho1 hg1 hat1 HT1 HR1 HS1 z0 z1 z2 z3 z4 z5 z6 y0 y1 y2 y3 y4 y5 y6
              have hT' : Three wd w5.heap.size w.heap.size vwb vwc vwd (wTo l y (k + 1)).2 ((l.take (k + 1)).filter fun x => !(x.id == yi)) ((l.take (k + 1)).map fun x => if x.id = yi then y else x) := by
                rw [HWT1.out, HFT1.out, HMT1.out]; exact S4.t
              have hd' := S4.d
              clear S4
              go_wp2
              go_roundw
              case rel => exact ⟨k + 1, by omega, by go_num, by rw [HAT1.out], by rw [HWT1.out], hT', hd'⟩
              case measure => simp [intOf]; omega
            · by_cases hne : i0 = yi
              · have hne' := hne.symm
                subst hne'
                have HWT1 : Hid (wTo l y (k + 1) = (false, lw ++ [l[k]])) := Lib.hid (by rw [HWT.out, if_neg (fun h => hlty h.2)])
                have HAT1 : Hid (atTo l yi (k + 1) = (k : Int)) := Lib.hid (by rw [HAT.out, if_pos rfl])
                have HFT1 : Hid ((l.take (k + 1)).filter (fun x => !(x.id == yi)) = lf) := Lib.hid (by rw [HFT.out, if_pos rfl, List.append_nil])
                have HMT1 : Hid ((l.take (k + 1)).map (fun x => if x.id = yi then y else x) = lm ++ [y]) := Lib.hid (by rw [HMT.out, if_pos rfl])
                clear HWT HAT HFT HMT
                have hlw : lw.length ≤ k + 1 := hLW1
                go_upto_region 12 with (fail)
                simp only [← hwe]
                clear hwe
                have S0 := HS0.out
                clear HS0
                obtain ⟨z0, z1, z2, z3, z4, z5, z6⟩ := cells7 S0.x
                obtain ⟨y0, y1, y2, y3, y4, y5, y6⟩ := cells7 S0.y
                have hsz_wb := S0.d.size
                have hal : Below we.heap.size we (we.alloc (.cells #[.int .i64 yi, .int .i64 l[k].tenant, .int .i64 l[k].sectors, .slice Ax nx cx, .slice Axe l[k].ext cxe, .slice Axt l[k].tree cxt, .slice Axs l[k].sums cxs] 77)) := (Below.refl _ we).alloc (Nat.le_refl _) _
                have HT1 := Lib.hid ((S0).t.all hal)
                have HR1 := Lib.hid (Sr.ofBlk (heap_alloc_new we (.cells #[.int .i64 yi, .int .i64 l[k].tenant, .int .i64 l[k].sectors, .slice Ax nx cx, .slice Axe l[k].ext cxe, .slice Axt l[k].tree cxt, .slice Axs l[k].sums cxs] 77)) (Enc.space.keep (rel_to HRX.out HDR.out S0.d (by omega)) (.all hal _)))
                have HS1 := Lib.hid (S0)
                clear S0 hal
                go_upto_region 16 with (at_builtin; refine wpl_app (e := Enc.space) (E := 77) (base := w5.heap.size) rfl _ _ 72 rfl Try.underlying72 Try.infoSpace rfl rfl rfl HT1.out.oa HR1.out (HT1.out.nots (by omega)) (by simp; omega) (by omega) (by first | omega | (simp; omega)) ?_; intro vwb wb ho1 hg1 hat1 _)
                have S2 := (HS1.out.app (by omega) (Nat.le_refl _) #[.int .i64 yi, .int .i64 l[k].tenant, .int .i64 l[k].sectors, .slice Ax nx cx, .slice Axe l[k].ext cxe, .slice Axt l[k].tree cxt, .slice Axs l[k].sums cxs] ho1 hg1 hat1)
                clear ho1 hg1 hat1 HT1 HR1 HS1 z0 z1 z2 z3 z4 z5 z6 y0 y1 y2 y3 y4 y5 y6
                obtain ⟨z0, z1, z2, z3, z4, z5, z6⟩ := cells7 S2.x
                obtain ⟨y0, y1, y2, y3, y4, y5, y6⟩ := cells7 S2.y
                have hsz_wc := S2.d.size
                have hal : Below wb.heap.size wb (wb.alloc (.cells #[.int .i64 yi, .int .i64 y.tenant, .int .i64 y.sectors, .slice Ar nr cr, .slice Ae y.ext ce, .slice At y.tree ct, .slice As y.sums cs] 77)) := (Below.refl _ wb).alloc (Nat.le_refl _) _
                have HT1 := Lib.hid ((S2.rot.rot).t.all hal)
                have HR1 := Lib.hid (Sr.ofBlk (heap_alloc_new wb (.cells #[.int .i64 yi, .int .i64 y.tenant, .int .i64 y.sectors, .slice Ar nr cr, .slice Ae y.ext ce, .slice At y.tree ct, .slice As y.sums cs] 77)) (Enc.space.keep (rel_to HRY.out HDR.out S2.d (by omega)) (.all hal _)))
                have HS1 := Lib.hid (S2.rot.rot)
                clear S2 hal
                go_upto_region 21 with (at_builtin; refine wpl_app (e := Enc.space) (E := 77) (base := w5.heap.size) rfl _ _ 72 rfl Try.underlying72 Try.infoSpace rfl rfl rfl HT1.out.oa HR1.out (HT1.out.nots (by omega)) (by simp; omega) (by omega) (by first | omega | (simp; omega)) ?_; intro vwc wc ho1 hg1 hat1 _)
                have S3 := (HS1.out.app (by omega) (Nat.le_refl _) #[.int .i64 yi, .int .i64 y.tenant, .int .i64 y.sectors, .slice Ar nr cr, .slice Ae y.ext ce, .slice At y.tree ct, .slice As y.sums cs] ho1 hg1 hat1).rot
                clear ho1 hg1 hat1 HT1 HR1 HS1 z0 z1 z2 z3 z4 z5 z6 y0 y1 y2 y3 y4 y5 y6
                have hT' : Three wc w5.heap.size w.heap.size vwb u10 vwc (wTo l y (k + 1)).2 ((l.take (k + 1)).filter fun x => !(x.id == yi)) ((l.take (k + 1)).map fun x => if x.id = yi then y else x) := by
                  rw [HWT1.out, HFT1.out, HMT1.out]; exact S3.t
                have hd' := S3.d
                clear S3
                go_wp2
                go_roundw
                case rel => exact ⟨k + 1, by omega, by go_num, by rw [HAT1.out], by rw [HWT1.out], hT', hd'⟩
                case measure => simp [intOf]; omega
              · have HWT1 : Hid (wTo l y (k + 1) = (false, lw ++ [l[k]])) := Lib.hid (by rw [HWT.out, if_neg (fun h => hlty h.2)])
                have HAT1 : Hid (atTo l yi (k + 1) = at0) := Lib.hid (by rw [HAT.out, if_neg hne])
                have HFT1 : Hid ((l.take (k + 1)).filter (fun x => !(x.id == yi)) = lf ++ [l[k]]) := Lib.hid (by rw [HFT.out, if_neg hne])
                have HMT1 : Hid ((l.take (k + 1)).map (fun x => if x.id = yi then y else x) = lm ++ [l[k]]) := Lib.hid (by rw [HMT.out, if_neg hne])
                clear HWT HAT HFT HMT
                have hlw : lw.length ≤ k + 1 := hLW1
                go_upto_region 12 with (fail)
                simp only [← hwe]
                clear hwe
                have S0 := HS0.out
                clear HS0
                obtain ⟨z0, z1, z2, z3, z4, z5, z6⟩ := cells7 S0.x
                obtain ⟨y0, y1, y2, y3, y4, y5, y6⟩ := cells7 S0.y
                have hsz_wb := S0.d.size
                have hal : Below we.heap.size we (we.alloc (.cells #[.int .i64 i0, .int .i64 l[k].tenant, .int .i64 l[k].sectors, .slice Ax nx cx, .slice Axe l[k].ext cxe, .slice Axt l[k].tree cxt, .slice Axs l[k].sums cxs] 77)) := (Below.refl _ we).alloc (Nat.le_refl _) _
                have HT1 := Lib.hid ((S0).t.all hal)
                have HR1 := Lib.hid (Sr.ofBlk (heap_alloc_new we (.cells #[.int .i64 i0, .int .i64 l[k].tenant, .int .i64 l[k].sectors, .slice Ax nx cx, .slice Axe l[k].ext cxe, .slice Axt l[k].tree cxt, .slice Axs l[k].sums cxs] 77)) (Enc.space.keep (rel_to HRX.out HDR.out S0.d (by omega)) (.all hal _)))
                have HS1 := Lib.hid (S0)
                clear S0 hal
                go_upto_region 16 with (at_builtin; refine wpl_app (e := Enc.space) (E := 77) (base := w5.heap.size) rfl _ _ 72 rfl Try.underlying72 Try.infoSpace rfl rfl rfl HT1.out.oa HR1.out (HT1.out.nots (by omega)) (by simp; omega) (by omega) (by first | omega | (simp; omega)) ?_; intro vwb wb ho1 hg1 hat1 _)
                have S2 := (HS1.out.app (by omega) (Nat.le_refl _) #[.int .i64 i0, .int .i64 l[k].tenant, .int .i64 l[k].sectors, .slice Ax nx cx, .slice Axe l[k].ext cxe, .slice Axt l[k].tree cxt, .slice Axs l[k].sums cxs] ho1 hg1 hat1)
                clear ho1 hg1 hat1 HT1 HR1 HS1 z0 z1 z2 z3 z4 z5 z6 y0 y1 y2 y3 y4 y5 y6
                obtain ⟨z0, z1, z2, z3, z4, z5, z6⟩ := cells7 S2.x
                obtain ⟨y0, y1, y2, y3, y4, y5, y6⟩ := cells7 S2.y
                have hsz_wc := S2.d.size
                have hal : Below wb.heap.size wb (wb.alloc (.cells #[.int .i64 i0, .int .i64 l[k].tenant, .int .i64 l[k].sectors, .slice Ax nx cx, .slice Axe l[k].ext cxe, .slice Axt l[k].tree cxt, .slice Axs l[k].sums cxs] 77)) := (Below.refl _ wb).alloc (Nat.le_refl _) _
                have HT1 := Lib.hid ((S2.rot).t.all hal)
                have HR1 := Lib.hid (Sr.ofBlk (heap_alloc_new wb (.cells #[.int .i64 i0, .int .i64 l[k].tenant, .int .i64 l[k].sectors, .slice Ax nx cx, .slice Axe l[k].ext cxe, .slice Axt l[k].tree cxt, .slice Axs l[k].sums cxs] 77)) (Enc.space.keep (rel_to HRX.out HDR.out S2.d (by omega)) (.all hal _)))
                have HS1 := Lib.hid (S2.rot)
                clear S2 hal
                go_upto_region 20 with (at_builtin; refine wpl_app (e := Enc.space) (E := 77) (base := w5.heap.size) rfl _ _ 72 rfl Try.underlying72 Try.infoSpace rfl rfl rfl HT1.out.oa HR1.out (HT1.out.nots (by omega)) (by simp; omega) (by omega) (by first | omega | (simp; omega)) ?_; intro vwc wc ho1 hg1 hat1 _)
                have S3 := (HS1.out.app (by omega) (Nat.le_refl _) #[.int .i64 i0, .int .i64 l[k].tenant, .int .i64 l[k].sectors, .slice Ax nx cx, .slice Axe l[k].ext cxe, .slice Axt l[k].tree cxt, .slice Axs l[k].sums cxs] ho1 hg1 hat1).rot.rot
                clear ho1 hg1 hat1 HT1 HR1 HS1 z0 z1 z2 z3 z4 z5 z6 y0 y1 y2 y3 y4 y5 y6
                obtain ⟨z0, z1, z2, z3, z4, z5, z6⟩ := cells7 S3.x
                obtain ⟨y0, y1, y2, y3, y4, y5, y6⟩ := cells7 S3.y
                have hsz_wd := S3.d.size
                have hal : Below wc.heap.size wc (wc.alloc (.cells #[.int .i64 i0, .int .i64 l[k].tenant, .int .i64 l[k].sectors, .slice Ax nx cx, .slice Axe l[k].ext cxe, .slice Axt l[k].tree cxt, .slice Axs l[k].sums cxs] 77)) := (Below.refl _ wc).alloc (Nat.le_refl _) _
                have HT1 := Lib.hid ((S3.rot.rot).t.all hal)
                have HR1 := Lib.hid (Sr.ofBlk (heap_alloc_new wc (.cells #[.int .i64 i0, .int .i64 l[k].tenant, .int .i64 l[k].sectors, .slice Ax nx cx, .slice Axe l[k].ext cxe, .slice Axt l[k].tree cxt, .slice Axs l[k].sums cxs] 77)) (Enc.space.keep (rel_to HRX.out HDR.out S3.d (by omega)) (.all hal _)))
                have HS1 := Lib.hid (S3.rot.rot)
                clear S3 hal
                go_upto_region 21 with (at_builtin; refine wpl_app (e := Enc.space) (E := 77) (base := w5.heap.size) rfl _ _ 72 rfl Try.underlying72 Try.infoSpace rfl rfl rfl HT1.out.oa HR1.out (HT1.out.nots (by omega)) (by simp; omega) (by omega) (by first | omega | (simp; omega)) ?_; intro vwd wd ho1 hg1 hat1 _)
                have S4 := (HS1.out.app (by omega) (Nat.le_refl _) #[.int .i64 i0, .int .i64 l[k].tenant, .int .i64 l[k].sectors, .slice Ax nx cx, .slice Axe l[k].ext cxe, .slice Axt l[k].tree cxt, .slice Axs l[k].sums cxs] ho1 hg1 hat1).rot
                clear ho1 hg1 hat1 HT1 HR1 HS1 z0 z1 z2 z3 z4 z5 z6 y0 y1 y2 y3 y4 y5 y6
                have hT' : Three wd w5.heap.size w.heap.size vwb vwc vwd (wTo l y (k + 1)).2 ((l.take (k + 1)).filter fun x => !(x.id == yi)) ((l.take (k + 1)).map fun x => if x.id = yi then y else x) := by
                  rw [HWT1.out, HFT1.out, HMT1.out]; exact S4.t
                have hd' := S4.d
                clear S4
                go_wp2
                go_roundw
                case rel => exact ⟨k + 1, by omega, by go_num, by rw [HAT1.out], by rw [HWT1.out], hT', hd'⟩
                case measure => simp [intOf]; omega
          | true =>
            by_cases hne : i0 = yi
            · have hne' := hne.symm
              subst hne'
              have HWT1 : Hid (wTo l y (k + 1) = (true, lw ++ [l[k]])) := Lib.hid (by rw [HWT.out, if_neg (fun h => by cases h.1)])
              have HAT1 : Hid (atTo l yi (k + 1) = (k : Int)) := Lib.hid (by rw [HAT.out, if_pos rfl])
              have HFT1 : Hid ((l.take (k + 1)).filter (fun x => !(x.id == yi)) = lf) := Lib.hid (by rw [HFT.out, if_pos rfl, List.append_nil])
              have HMT1 : Hid ((l.take (k + 1)).map (fun x => if x.id = yi then y else x) = lm ++ [y]) := Lib.hid (by rw [HMT.out, if_pos rfl])
              clear HWT HAT HFT HMT
              have hlw : lw.length ≤ k + 1 := hLW1
              go_upto_region 12 with (fail)
              simp only [← hwe]
              clear hwe
              have S0 := HS0.out
              clear HS0
              obtain ⟨z0, z1, z2, z3, z4, z5, z6⟩ := cells7 S0.x
              obtain ⟨y0, y1, y2, y3, y4, y5, y6⟩ := cells7 S0.y
              have hsz_wb := S0.d.size
              have hal : Below we.heap.size we (we.alloc (.cells #[.int .i64 yi, .int .i64 l[k].tenant, .int .i64 l[k].sectors, .slice Ax nx cx, .slice Axe l[k].ext cxe, .slice Axt l[k].tree cxt, .slice Axs l[k].sums cxs] 77)) := (Below.refl _ we).alloc (Nat.le_refl _) _
              have HT1 := Lib.hid ((S0).t.all hal)
              have HR1 := Lib.hid (Sr.ofBlk (heap_alloc_new we (.cells #[.int .i64 yi, .int .i64 l[k].tenant, .int .i64 l[k].sectors, .slice Ax nx cx, .slice Axe l[k].ext cxe, .slice Axt l[k].tree cxt, .slice Axs l[k].sums cxs] 77)) (Enc.space.keep (rel_to HRX.out HDR.out S0.d (by omega)) (.all hal _)))
              have HS1 := Lib.hid (S0)
              clear S0 hal
              go_upto_region 16 with (at_builtin; refine wpl_app (e := Enc.space) (E := 77) (base := w5.heap.size) rfl _ _ 72 rfl Try.underlying72 Try.infoSpace rfl rfl rfl HT1.out.oa HR1.out (HT1.out.nots (by omega)) (by simp; omega) (by omega) (by first | omega | (simp; omega)) ?_; intro vwb wb ho1 hg1 hat1 _)
              have S2 := (HS1.out.app (by omega) (Nat.le_refl _) #[.int .i64 yi, .int .i64 l[k].tenant, .int .i64 l[k].sectors, .slice Ax nx cx, .slice Axe l[k].ext cxe, .slice Axt l[k].tree cxt, .slice Axs l[k].sums cxs] ho1 hg1 hat1)
              clear ho1 hg1 hat1 HT1 HR1 HS1 z0 z1 z2 z3 z4 z5 z6 y0 y1 y2 y3 y4 y5 y6
              obtain ⟨z0, z1, z2, z3, z4, z5, z6⟩ := cells7 S2.x
              obtain ⟨y0, y1, y2, y3, y4, y5, y6⟩ := cells7 S2.y
              have hsz_wc := S2.d.size
              have hal : Below wb.heap.size wb (wb.alloc (.cells #[.int .i64 yi, .int .i64 y.tenant, .int .i64 y.sectors, .slice Ar nr cr, .slice Ae y.ext ce, .slice At y.tree ct, .slice As y.sums cs] 77)) := (Below.refl _ wb).alloc (Nat.le_refl _) _
              have HT1 := Lib.hid ((S2.rot.rot).t.all hal)
              have HR1 := Lib.hid (Sr.ofBlk (heap_alloc_new wb (.cells #[.int .i64 yi, .int .i64 y.tenant, .int .i64 y.sectors, .slice Ar nr cr, .slice Ae y.ext ce, .slice At y.tree ct, .slice As y.sums cs] 77)) (Enc.space.keep (rel_to HRY.out HDR.out S2.d (by omega)) (.all hal _)))
              have HS1 := Lib.hid (S2.rot.rot)
              clear S2 hal
              go_upto_region 21 with (at_builtin; refine wpl_app (e := Enc.space) (E := 77) (base := w5.heap.size) rfl _ _ 72 rfl Try.underlying72 Try.infoSpace rfl rfl rfl HT1.out.oa HR1.out (HT1.out.nots (by omega)) (by simp; omega) (by omega) (by first | omega | (simp; omega)) ?_; intro vwc wc ho1 hg1 hat1 _)
              have S3 := (HS1.out.app (by omega) (Nat.le_refl _) #[.int .i64 yi, .int .i64 y.tenant, .int .i64 y.sectors, .slice Ar nr cr, .slice Ae y.ext ce, .slice At y.tree ct, .slice As y.sums cs] ho1 hg1 hat1).rot
              clear ho1 hg1 hat1 HT1 HR1 HS1 z0 z1 z2 z3 z4 z5 z6 y0 y1 y2 y3 y4 y5 y6
              have hT' : Three wc w5.heap.size w.heap.size vwb u10 vwc (wTo l y (k + 1)).2 ((l.take (k + 1)).filter fun x => !(x.id == yi)) ((l.take (k + 1)).map fun x => if x.id = yi then y else x) := by
                rw [HWT1.out, HFT1.out, HMT1.out]; exact S3.t
              have hd' := S3.d
              clear S3
              go_wp2
              go_roundw
              case rel => exact ⟨k + 1, by omega, by go_num, by rw [HAT1.out], by rw [HWT1.out], hT', hd'⟩
              case measure => simp [intOf]; omega
            · have HWT1 : Hid (wTo l y (k + 1) = (true, lw ++ [l[k]])) := Lib.hid (by rw [HWT.out, if_neg (fun h => by cases h.1)])
              have HAT1 : Hid (atTo l yi (k + 1) = at0) := Lib.hid (by rw [HAT.out, if_neg hne])
              have HFT1 : Hid ((l.take (k + 1)).filter (fun x => !(x.id == yi)) = lf ++ [l[k]]) := Lib.hid (by rw [HFT.out, if_neg hne])
              have HMT1 : Hid ((l.take (k + 1)).map (fun x => if x.id = yi then y else x) = lm ++ [l[k]]) := Lib.hid (by rw [HMT.out, if_neg hne])
              clear HWT HAT HFT HMT
              have hlw : lw.length ≤ k + 1 := hLW1
              go_upto_region 12 with (fail)
              simp only [← hwe]
              clear hwe
              have S0 := HS0.out
              clear HS0
              obtain ⟨z0, z1, z2, z3, z4, z5, z6⟩ := cells7 S0.x
              obtain ⟨y0, y1, y2, y3, y4, y5, y6⟩ := cells7 S0.y
              have hsz_wb := S0.d.size
              have hal : Below we.heap.size we (we.alloc (.cells #[.int .i64 i0, .int .i64 l[k].tenant, .int .i64 l[k].sectors, .slice Ax nx cx, .slice Axe l[k].ext cxe, .slice Axt l[k].tree cxt, .slice Axs l[k].sums cxs] 77)) := (Below.refl _ we).alloc (Nat.le_refl _) _
              have HT1 := Lib.hid ((S0).t.all hal)
              have HR1 := Lib.hid (Sr.ofBlk (heap_alloc_new we (.cells #[.int .i64 i0, .int .i64 l[k].tenant, .int .i64 l[k].sectors, .slice Ax nx cx, .slice Axe l[k].ext cxe, .slice Axt l[k].tree cxt, .slice Axs l[k].sums cxs] 77)) (Enc.space.keep (rel_to HRX.out HDR.out S0.d (by omega)) (.all hal _)))
              have HS1 := Lib.hid (S0)
              clear S0 hal
              go_upto_region 16 with (at_builtin; refine wpl_app (e := Enc.space) (E := 77) (base := w5.heap.size) rfl _ _ 72 rfl Try.underlying72 Try.infoSpace rfl rfl rfl HT1.out.oa HR1.out (HT1.out.nots (by omega)) (by simp; omega) (by omega) (by first | omega | (simp; omega)) ?_; intro vwb wb ho1 hg1 hat1 _)
              have S2 := (HS1.out.app (by omega) (Nat.le_refl _) #[.int .i64 i0, .int .i64 l[k].tenant, .int .i64 l[k].sectors, .slice Ax nx cx, .slice Axe l[k].ext cxe, .slice Axt l[k].tree cxt, .slice Axs l[k].sums cxs] ho1 hg1 hat1)
              clear ho1 hg1 hat1 HT1 HR1 HS1 z0 z1 z2 z3 z4 z5 z6 y0 y1 y2 y3 y4 y5 y6
              obtain ⟨z0, z1, z2, z3, z4, z5, z6⟩ := cells7 S2.x
              obtain ⟨y0, y1, y2, y3, y4, y5, y6⟩ := cells7 S2.y
              have hsz_wc := S2.d.size
              have hal : Below wb.heap.size wb (wb.alloc (.cells #[.int .i64 i0, .int .i64 l[k].tenant, .int .i64 l[k].sectors, .slice Ax nx cx, .slice Axe l[k].ext cxe, .slice Axt l[k].tree cxt, .slice Axs l[k].sums cxs] 77)) := (Below.refl _ wb).alloc (Nat.le_refl _) _
              have HT1 := Lib.hid ((S2.rot).t.all hal)
              have HR1 := Lib.hid (Sr.ofBlk (heap_alloc_new wb (.cells #[.int .i64 i0, .int .i64 l[k].tenant, .int .i64 l[k].sectors, .slice Ax nx cx, .slice Axe l[k].ext cxe, .slice Axt l[k].tree cxt, .slice Axs l[k].sums cxs] 77)) (Enc.space.keep (rel_to HRX.out HDR.out S2.d (by omega)) (.all hal _)))
              have HS1 := Lib.hid (S2.rot)
              clear S2 hal
              go_upto_region 20 with (at_builtin; refine wpl_app (e := Enc.space) (E := 77) (base := w5.heap.size) rfl _ _ 72 rfl Try.underlying72 Try.infoSpace rfl rfl rfl HT1.out.oa HR1.out (HT1.out.nots (by omega)) (by simp; omega) (by omega) (by first | omega | (simp; omega)) ?_; intro vwc wc ho1 hg1 hat1 _)
              have S3 := (HS1.out.app (by omega) (Nat.le_refl _) #[.int .i64 i0, .int .i64 l[k].tenant, .int .i64 l[k].sectors, .slice Ax nx cx, .slice Axe l[k].ext cxe, .slice Axt l[k].tree cxt, .slice Axs l[k].sums cxs] ho1 hg1 hat1).rot.rot
              clear ho1 hg1 hat1 HT1 HR1 HS1 z0 z1 z2 z3 z4 z5 z6 y0 y1 y2 y3 y4 y5 y6
              obtain ⟨z0, z1, z2, z3, z4, z5, z6⟩ := cells7 S3.x
              obtain ⟨y0, y1, y2, y3, y4, y5, y6⟩ := cells7 S3.y
              have hsz_wd := S3.d.size
              have hal : Below wc.heap.size wc (wc.alloc (.cells #[.int .i64 i0, .int .i64 l[k].tenant, .int .i64 l[k].sectors, .slice Ax nx cx, .slice Axe l[k].ext cxe, .slice Axt l[k].tree cxt, .slice Axs l[k].sums cxs] 77)) := (Below.refl _ wc).alloc (Nat.le_refl _) _
              have HT1 := Lib.hid ((S3.rot.rot).t.all hal)
              have HR1 := Lib.hid (Sr.ofBlk (heap_alloc_new wc (.cells #[.int .i64 i0, .int .i64 l[k].tenant, .int .i64 l[k].sectors, .slice Ax nx cx, .slice Axe l[k].ext cxe, .slice Axt l[k].tree cxt, .slice Axs l[k].sums cxs] 77)) (Enc.space.keep (rel_to HRX.out HDR.out S3.d (by omega)) (.all hal _)))
              have HS1 := Lib.hid (S3.rot.rot)
              clear S3 hal
              go_upto_region 21 with (at_builtin; refine wpl_app (e := Enc.space) (E := 77) (base := w5.heap.size) rfl _ _ 72 rfl Try.underlying72 Try.infoSpace rfl rfl rfl HT1.out.oa HR1.out (HT1.out.nots (by omega)) (by simp; omega) (by omega) (by first | omega | (simp; omega)) ?_; intro vwd wd ho1 hg1 hat1 _)
              have S4 := (HS1.out.app (by omega) (Nat.le_refl _) #[.int .i64 i0, .int .i64 l[k].tenant, .int .i64 l[k].sectors, .slice Ax nx cx, .slice Axe l[k].ext cxe, .slice Axt l[k].tree cxt, .slice Axs l[k].sums cxs] ho1 hg1 hat1).rot
              clear ho1 hg1 hat1 HT1 HR1 HS1 z0 z1 z2 z3 z4 z5 z6 y0 y1 y2 y3 y4 y5 y6
              have hT' : Three wd w5.heap.size w.heap.size vwb vwc vwd (wTo l y (k + 1)).2 ((l.take (k + 1)).filter fun x => !(x.id == yi)) ((l.take (k + 1)).map fun x => if x.id = yi then y else x) := by
                rw [HWT1.out, HFT1.out, HMT1.out]; exact S4.t
              have hd' := S4.d
              clear S4
              go_wp2
              go_roundw
              case rel => exact ⟨k + 1, by omega, by go_num, by rw [HAT1.out], by rw [HWT1.out], hT', hd'⟩
              case measure => simp [intOf]; omega
        · obtain rfl : k = n := by omega
          rw [List.take_of_length_le (by omega)] at hT
          have HWD0 := wTo_done l y
          rw [hln, HYI.out] at HWD0
          have hLW := wTo_len l y k
          have hLF : (l.filter fun x => !(x.id == yi)).length ≤ k := Nat.le_trans (List.length_filter_le _ _) (by omega)
          have hLM : (l.map fun x => if x.id = yi then y else x).length ≤ k := by rw [List.length_map]; omega
          have HBR := Lib.hid (HB5.out.trans (hd.mono HB5.out.size))
          have HRY := Lib.hid (Enc.space.keep HY.out (.all HBR.out _))
          have HRX := HRY
          have HDR := Lib.hid hd
          have HT := Lib.hid hT
          clear hT hd
          obtain ⟨lf, hlf⟩ : ∃ lf, lf = l.filter (fun x => !(x.id == yi)) := ⟨_, rfl⟩
          obtain ⟨lm, hlm⟩ : ∃ lm, lm = l.map (fun x => if x.id = yi then y else x) := ⟨_, rfl⟩
          rw [← hlf] at HT hLF
          rw [← hlm] at HT hLM
          have HLF := Lib.hid hlf
          have HLM := Lib.hid hlm
          clear hlf hlm
          obtain ⟨d, lw, hdw⟩ : ∃ d lw, wTo l y k = (d, lw) := ⟨_, _, rfl⟩
          simp only [hdw] at HWD0 hLW HT ⊢
          clear hdw
          obtain ⟨hLW1, hLW2⟩ := hLW
          cases d with
          | false =>
            have HWD : Hid (lw ++ [y] = l.take (addAt l yi) ++ y :: l.drop (addAt l yi)) := Lib.hid HWD0
            have hlw2 := hLW2 rfl
            clear HWD0 hLW2
            have S0 : St w5 wr w5.heap.size w.heap.size w.heap.size #[.int .i64 yi, .int .i64 y.tenant, .int .i64 y.sectors, .slice Ar nr cr, .slice Ae y.ext ce, .slice At y.tree ct, .slice As y.sums cs] #[.int .i64 yi, .int .i64 y.tenant, .int .i64 y.sectors, .slice Ar nr cr, .slice Ae y.ext ce, .slice At y.tree ct, .slice As y.sums cs] u9 u10 u11 lw lf lm := ⟨HT.out, HDR.out, (HDR.out.block _ hl5).trans HH5.out, (HDR.out.block _ hl5).trans HH5.out, fun g hg e => by have := (HT.out.oa.blk hg).1; omega, fun g hg e => by have := (HT.out.ob.blk hg).1; omega, fun g hg e => by have := (HT.out.oc.blk hg).1; omega⟩
            obtain ⟨z0, z1, z2, z3, z4, z5, z6⟩ := cells7 S0.x
            obtain ⟨y0, y1, y2, y3, y4, y5, y6⟩ := cells7 S0.y
            have hsz_wf := S0.d.size
            have hal : Below wr.heap.size wr (wr.alloc (.cells #[.int .i64 yi, .int .i64 y.tenant, .int .i64 y.sectors, .slice Ar nr cr, .slice Ae y.ext ce, .slice At y.tree ct, .slice As y.sums cs] 77)) := (Below.refl _ wr).alloc (Nat.le_refl _) _
            have HT1 := Lib.hid ((S0).t.all hal)
            have HR1 := Lib.hid (Sr.ofBlk (heap_alloc_new wr (.cells #[.int .i64 yi, .int .i64 y.tenant, .int .i64 y.sectors, .slice Ar nr cr, .slice Ae y.ext ce, .slice At y.tree ct, .slice As y.sums cs] 77)) (Enc.space.keep (rel_to HRY.out HDR.out S0.d (by omega)) (.all hal _)))
            have HS1 := Lib.hid (S0)
            clear S0 hal
            go_upto_region 24 with (at_builtin; refine wpl_app (e := Enc.space) (E := 77) (base := w5.heap.size) rfl _ _ 72 rfl Try.underlying72 Try.infoSpace rfl rfl rfl HT1.out.oa HR1.out (HT1.out.nots (by omega)) (by simp; omega) (by omega) (by first | omega | (simp; omega)) ?_; intro vwf wf ho1 hg1 hat1 _)
            have S1 := (HS1.out.app (by omega) (Nat.le_refl _) #[.int .i64 yi, .int .i64 y.tenant, .int .i64 y.sectors, .slice Ar nr cr, .slice Ae y.ext ce, .slice At y.tree ct, .slice As y.sums cs] ho1 hg1 hat1)
            clear ho1 hg1 hat1 HT1 HR1 HS1 z0 z1 z2 z3 z4 z5 z6 y0 y1 y2 y3 y4 y5 y6
            have HWF : Hid (lw ++ [y] = l.take (addAt l yi) ++ y :: l.drop (addAt l yi)) := Lib.hid HWD.out
            have HTF := Lib.hid S1.t
            have HDF := Lib.hid S1.d
            clear S1
            have HBF := Lib.hid (HB5.out.trans (HDF.out.mono HB5.out.size))
            have HYF := Lib.hid (Enc.space.keep HY.out (.all HBF.out _))
            have HHF := Lib.hid ((HDF.out.block _ hl5).trans HH5.out)
            obtain ⟨y0, y1, y2, y3, y4, y5, y6⟩ := cells7 HHF.out
            have hc1 := cat_add (most := most) (HS.out.all HBF.out) (by omega) HYF.out
            rw [HYI.out] at hc1
            have HC1 := Lib.hid hc1
            clear hc1
            go_upto_region 25 with (go_at_call 51; refine HC1.out.mono ?_; rintro e w6 ⟨va, Fa, rfl, hoa, hd6⟩)
            have HT6 := Lib.hid (HTF.out.all hd6)
            have HE6 := Lib.hid hd6
            have HB6 := Lib.hid (HBF.out.trans (hd6.mono HBF.out.size))
            have hlf_ : w.heap.size < wf.heap.size := (Array.getElem?_eq_some_iff.1 HHF.out).1
            have HH6 := Lib.hid ((hd6.block _ hlf_).trans HHF.out)
            have HOA := Lib.hid hoa
            have hl6 : w.heap.size < w6.heap.size := (Array.getElem?_eq_some_iff.1 HH6.out).1
            clear hoa hd6 y0 y1 y2 y3 y4 y5 y6 HC1
            obtain ⟨y0, y1, y2, y3, y4, y5, y6⟩ := cells7 HH6.out
            have hc1 := cat_replace (HS.out.all HB6.out) (by omega) (Enc.space.keep HY.out (.all HB6.out _))
            rw [HYI.out] at hc1
            have HC1 := Lib.hid hc1
            clear hc1
            go_upto_region 26 with (go_at_call 52; refine HC1.out.mono ?_; rintro e w7 ⟨⟨vb, Fb, rfl, hob⟩, hd7⟩)
            have HB7 := Lib.hid (HB6.out.trans (hd7.mono HB6.out.size))
            have HE7 := Lib.hid (HE6.out.trans (hd7.mono HE6.out.size))
            have HT7 := Lib.hid (HT6.out.all hd7)
            have HOA7 := Lib.hid (HOA.out.all hd7)
            have HH7 := Lib.hid ((hd7.block _ hl6).trans HH6.out)
            have HOB := Lib.hid hob
            clear hob hd7 y0 y1 y2 y3 y4 y5 y6 HC1 HT6 HOA HH6 HE6 HB6
            obtain ⟨y0, y1, y2, y3, y4, y5, y6⟩ := cells7 HH7.out
            have HC1 := Lib.hid (cat_remove (i := yi) (HS.out.all HB7.out) (by omega))
            have hl7 : w.heap.size < w7.heap.size := (Array.getElem?_eq_some_iff.1 HH7.out).1
            go_upto_region 27 with (go_at_call 53; refine HC1.out.mono ?_; rintro e w8 ⟨⟨vc, Fc, rfl, hoc⟩, hd8⟩)
            have HB8 := Lib.hid (HB7.out.trans (hd8.mono HB7.out.size))
            have HE8 := Lib.hid (HE7.out.trans (hd8.mono HE7.out.size))
            have HT8 := Lib.hid (HT7.out.all hd8)
            have HOA8 := Lib.hid (HOA7.out.all hd8)
            have HOB8 := Lib.hid (HOB.out.all hd8)
            have HH8 := Lib.hid ((hd8.block _ hl7).trans HH7.out)
            have HOC := Lib.hid hoc
            clear hoc hd8 y0 y1 y2 y3 y4 y5 y6 HC1 HT7 HOA7 HOB HH7 HE7 HB7
            obtain ⟨A7, c7, hv7, hs7⟩ := (HO7.out.all (HDF.out.trans (HE8.out.mono HDF.out.size))).sl (F' := fun _ => True) (fun _ _ => trivial) (fun _ _ => trivial)
            rw [hln] at hv7 hs7
            subst hv7
            have hl8 : w.heap.size < w8.heap.size := (Array.getElem?_eq_some_iff.1 HH8.out).1
            have hc1 := list_spaces (HS.out.all HB8.out) hs7
            simp only [decide_true] at hc1
            have HC1 := Lib.hid hc1
            clear hc1 hs7
            go_upto_region 29 with (go_at_call 48; refine HC1.out.mono ?_; rintro e w9 ⟨rfl, hd9⟩)
            have HB9 := Lib.hid (HB8.out.trans (hd9.mono HB8.out.size))
            have HC2 := Lib.hid (law_listed (HS.out.all HB9.out))
            have HE9 := Lib.hid hd9
            have hs89 := hd9.size
            clear hd9 HC1
            go_wp2_with fail
            refine HC2.out.mono ?_
            rintro e w10 ⟨rfl, hd10⟩
            have HE10 := Lib.hid (HE9.out.trans (hd10.mono hs89))
            have HB10 := Lib.hid (HB9.out.trans (hd10.mono HB9.out.size))
            have HT10 := Lib.hid (HT8.out.all HE10.out)
            have HOA10 := Lib.hid (HOA8.out.all HE10.out)
            have HOB10 := Lib.hid (HOB8.out.all HE10.out)
            have HOC10 := Lib.hid (HOC.out.all HE10.out)
            have HH10 := Lib.hid ((HE10.out.block _ hl8).trans HH8.out)
            clear hd10 HC2 HE9 HE10 HB9 HT8 HOA8 HOB8 HOC HH8 HE8 HB8
            obtain ⟨y0, y1, y2, y3, y4, y5, y6⟩ := cells7 HH10.out
            obtain ⟨LA, hLA⟩ : ∃ LA, LA = l.take (addAt l yi) ++ y :: l.drop (addAt l yi) := ⟨_, rfl⟩
            obtain ⟨A9, c9, hv9, hs9⟩ := HT10.out.oa.sl (F' := fun _ => True) (fun _ _ => trivial) (fun _ _ => trivial)
            obtain ⟨A10, c10, hv10, hs10⟩ := HT10.out.ob.sl (F' := fun _ => True) (fun _ _ => trivial) (fun _ _ => trivial)
            obtain ⟨A11, c11, hv11, hs11⟩ := HT10.out.oc.sl (F' := fun _ => True) (fun _ _ => trivial) (fun _ _ => trivial)
            clear HT10 HTF HT
            rw [HWF.out, ← hLA] at hv9 hs9
            subst hv9 hv10 hv11
            obtain ⟨Aa, ca, hva, hsa⟩ := HOA10.out.sl (F' := fun _ => True) (fun _ _ => trivial) (fun _ _ => trivial)
            obtain ⟨Ab, cb, hvb, hsb⟩ := HOB10.out.sl (F' := fun _ => True) (fun _ _ => trivial) (fun _ _ => trivial)
            obtain ⟨Ac, cc, hvc, hsc⟩ := HOC10.out.sl (F' := fun _ => True) (fun _ _ => trivial) (fun _ _ => trivial)
            clear HOA10 HOB10 HOC10
            cases hlb : listedB l with
            | false =>
              have hE : addE l yi most = 2 := by unfold addE; rw [hlb]; simp
              have hP : placeE l yi = 2 := by unfold placeE; rw [hlb]; simp
              rw [hE, if_neg (by decide)] at hva
              rw [hP, if_neg (by decide)] at hvb hvc
              subst hva hvb hvc
              clear hs9 hs10 hs11 hsa hsb hsc hlb
              go_wp2
              all_goals
                go_ret
                exact ⟨rfl, HB10.out⟩
            | true =>
              rcases listed_cases hlb yi y with ⟨hf, hat⟩ | ⟨f, hfl, hf, hat, hfil, hmap⟩
              · rw [hln] at hat
                have hP : placeE l yi = 31 := by unfold placeE; rw [hlb, hf]; decide
                rw [hP, if_neg (by decide)] at hvb hvc
                subst hvb hvc
                clear hs10 hs11 hsb hsc
                by_cases hm1 : 1 ≤ yi
                · by_cases hm2 : yi ≤ 64
                  · by_cases hmo : most ≤ (k : Int)
                    · have hE : addE l yi most = 34 := by unfold addE; rw [hlb, hf, hln]; simp [hm1, hm2, hmo]
                      rw [hE, if_neg (by decide)] at hva
                      subst hva
                      clear hs9 hsa hlb hf
                      go_wp2
                      all_goals
                        go_ret
                        exact ⟨rfl, HB10.out⟩
                    · have hE : addE l yi most = 0 := by unfold addE; rw [hlb, hf, hln]; simp [hm1, hm2, hmo]
                      rw [hE, if_pos rfl, ← hLA] at hva hsa
                      subst hva
                      have hc1 := list_spaces hsa hs9
                      simp only [decide_true] at hc1
                      have hb1 : decide (yi < 1) = false := by simp; omega
                      have hb2 : decide (64 < yi) = false := by simp; omega
                      have hb3 : decide (most ≤ (k : Int)) = false := by simp; omega
                      have HC1 := Lib.hid hc1
                      clear hs9 hsa hlb hf hc1 hLA
                      go_wp2_with fail
                      refine HC1.out.mono ?_
                      rintro e w11 ⟨rfl, hd11⟩
                      go_wp2
                      all_goals
                        go_ret
                        exact ⟨rfl, HB10.out.trans (hd11.mono HB10.out.size)⟩
                  · have hE : addE l yi most = 2 := by unfold addE; rw [hlb]; simp [hm1, hm2]
                    rw [hE, if_neg (by decide)] at hva
                    subst hva
                    clear hs9 hsa hlb hf
                    go_wp2
                    all_goals
                      go_ret
                      exact ⟨rfl, HB10.out⟩
                · have hE : addE l yi most = 2 := by unfold addE; rw [hlb]; simp [hm1]
                  rw [hE, if_neg (by decide)] at hva
                  subst hva
                  clear hs9 hsa hlb hf
                  go_wp2
                  all_goals
                    go_ret
                    exact ⟨rfl, HB10.out⟩
              · rw [hln] at hat
                have hP : placeE l yi = 0 := by unfold placeE; rw [hlb, hf]; simp
                rw [hP, if_pos rfl, hf, Int.toNat_natCast] at hvb hvc hsb hsc
                obtain ⟨LB, hLB⟩ : ∃ LB, LB = l.set f y := ⟨_, rfl⟩
                obtain ⟨LC, hLC⟩ : ∃ LC, LC = l.eraseIdx f := ⟨_, rfl⟩
                have hB : LB = lm := by rw [hLB, HLM.out, hmap]
                have hC : LC = lf := by rw [hLC, HLF.out, hfil]
                rw [← hLB, hB] at hsb
                rw [← hLC, hC] at hsc
                rw [← hLB, hB] at hvb
                rw [← hLC, hC] at hvc
                subst hvb hvc
                have hc1 := list_spaces hsb hs11
                simp only [decide_true] at hc1
                have HC1 := Lib.hid hc1
                have HSC := Lib.hid hsc
                have HS10 := Lib.hid hs10
                have hEa : (addE l yi most = 36 ∧ (decide (1 ≤ yi) && decide (yi ≤ 64)) = true) ∨ (addE l yi most = 2 ∧ (decide (1 ≤ yi) && decide (yi ≤ 64)) = false) := by
                  unfold addE
                  rw [hlb, hf]
                  cases hmm : (decide (1 ≤ yi) && decide (yi ≤ 64)) <;> simp
                have hbf : decide ((f : Int) < 0) = false := by simp
                have hbg : decide ((0 : Int) ≤ (f : Int)) = true := by simp
                clear hs9 hs10 hs11 hsa hsb hsc hlb hf hfil hmap hc1 hLA hLB hLC hB hC
                have fin : ∀ w11, Below w10.heap.size w10 w11 → Calls Try.prog 48 #[.slice Ac lf.length cc, .slice A10 lf.length c10] w11 fun e w' => e = .returned (.bool true) ∧ Below w11.heap.size w11 w' := fun w11 hd => by
                  have := list_spaces (HSC.out.all hd) (HS10.out.all hd)
                  simpa only [decide_true] using this
                have HFN := Lib.hid fin
                clear fin
                rcases hEa with ⟨hE, hmm⟩ | ⟨hE, hmm⟩
                · rw [hE, if_neg (by decide)] at hva
                  subst hva
                  simp only [Bool.and_eq_true, decide_eq_true_eq] at hmm
                  have hb1 : decide (yi < 1) = false := by simp; omega
                  have hb2 : decide (64 < yi) = false := by simp; omega
                  go_wp2_with fail
                  refine HC1.out.mono ?_
                  rintro e w11 ⟨rfl, hd11⟩
                  have HFN1 := Lib.hid (HFN.out w11 hd11)
                  go_wp2_with fail
                  refine HFN1.out.mono ?_
                  rintro e w12 ⟨rfl, hd12⟩
                  go_wp2
                  go_ret
                  exact ⟨rfl, HB10.out.trans ((hd11.trans (hd12.mono hd11.size)).mono HB10.out.size)⟩
                · rw [hE, if_neg (by decide)] at hva
                  subst hva
                  by_cases hm1 : 1 ≤ yi
                  · have hm2 : ¬ yi ≤ 64 := fun h => by simp [hm1, h] at hmm
                    have hb1 : decide (yi < 1) = false := by simp; omega
                    have hb2 : decide (64 < yi) = true := by simp; omega
                    clear hmm
                    go_wp2_with fail
                    refine HC1.out.mono ?_
                    rintro e w11 ⟨rfl, hd11⟩
                    have HFN1 := Lib.hid (HFN.out w11 hd11)
                    go_wp2_with fail
                    refine HFN1.out.mono ?_
                    rintro e w12 ⟨rfl, hd12⟩
                    go_wp2
                    go_ret
                    exact ⟨rfl, HB10.out.trans ((hd11.trans (hd12.mono hd11.size)).mono HB10.out.size)⟩
                  · have hb1 : decide (yi < 1) = true := by simp; omega
                    clear hmm
                    go_wp2_with fail
                    refine HC1.out.mono ?_
                    rintro e w11 ⟨rfl, hd11⟩
                    have HFN1 := Lib.hid (HFN.out w11 hd11)
                    go_wp2_with fail
                    refine HFN1.out.mono ?_
                    rintro e w12 ⟨rfl, hd12⟩
                    go_wp2
                    go_ret
                    exact ⟨rfl, HB10.out.trans ((hd11.trans (hd12.mono hd11.size)).mono HB10.out.size)⟩
          | true =>
            have HWD : Hid (lw = l.take (addAt l yi) ++ y :: l.drop (addAt l yi)) := Lib.hid HWD0
            clear HWD0 hLW2
            obtain ⟨wf, hwf⟩ : ∃ wf, wf = wr := ⟨_, rfl⟩
            subst hwf
            have HWF : Hid (lw = l.take (addAt l yi) ++ y :: l.drop (addAt l yi)) := Lib.hid HWD.out
            have HTF := Lib.hid HT.out
            have HDF := Lib.hid HDR.out
            go_upto_region 24 with (fail)
            have HBF := Lib.hid (HB5.out.trans (HDF.out.mono HB5.out.size))
            have HYF := Lib.hid (Enc.space.keep HY.out (.all HBF.out _))
            have HHF := Lib.hid ((HDF.out.block _ hl5).trans HH5.out)
            obtain ⟨y0, y1, y2, y3, y4, y5, y6⟩ := cells7 HHF.out
            have hc1 := cat_add (most := most) (HS.out.all HBF.out) (by omega) HYF.out
            rw [HYI.out] at hc1
            have HC1 := Lib.hid hc1
            clear hc1
            go_upto_region 25 with (go_at_call 51; refine HC1.out.mono ?_; rintro e w6 ⟨va, Fa, rfl, hoa, hd6⟩)
            have HT6 := Lib.hid (HTF.out.all hd6)
            have HE6 := Lib.hid hd6
            have HB6 := Lib.hid (HBF.out.trans (hd6.mono HBF.out.size))
            have hlf_ : w.heap.size < wf.heap.size := (Array.getElem?_eq_some_iff.1 HHF.out).1
            have HH6 := Lib.hid ((hd6.block _ hlf_).trans HHF.out)
            have HOA := Lib.hid hoa
            have hl6 : w.heap.size < w6.heap.size := (Array.getElem?_eq_some_iff.1 HH6.out).1
            clear hoa hd6 y0 y1 y2 y3 y4 y5 y6 HC1
            obtain ⟨y0, y1, y2, y3, y4, y5, y6⟩ := cells7 HH6.out
            have hc1 := cat_replace (HS.out.all HB6.out) (by omega) (Enc.space.keep HY.out (.all HB6.out _))
            rw [HYI.out] at hc1
            have HC1 := Lib.hid hc1
            clear hc1
            go_upto_region 26 with (go_at_call 52; refine HC1.out.mono ?_; rintro e w7 ⟨⟨vb, Fb, rfl, hob⟩, hd7⟩)
            have HB7 := Lib.hid (HB6.out.trans (hd7.mono HB6.out.size))
            have HE7 := Lib.hid (HE6.out.trans (hd7.mono HE6.out.size))
            have HT7 := Lib.hid (HT6.out.all hd7)
            have HOA7 := Lib.hid (HOA.out.all hd7)
            have HH7 := Lib.hid ((hd7.block _ hl6).trans HH6.out)
            have HOB := Lib.hid hob
            clear hob hd7 y0 y1 y2 y3 y4 y5 y6 HC1 HT6 HOA HH6 HE6 HB6
            obtain ⟨y0, y1, y2, y3, y4, y5, y6⟩ := cells7 HH7.out
            have HC1 := Lib.hid (cat_remove (i := yi) (HS.out.all HB7.out) (by omega))
            have hl7 : w.heap.size < w7.heap.size := (Array.getElem?_eq_some_iff.1 HH7.out).1
            go_upto_region 27 with (go_at_call 53; refine HC1.out.mono ?_; rintro e w8 ⟨⟨vc, Fc, rfl, hoc⟩, hd8⟩)
            have HB8 := Lib.hid (HB7.out.trans (hd8.mono HB7.out.size))
            have HE8 := Lib.hid (HE7.out.trans (hd8.mono HE7.out.size))
            have HT8 := Lib.hid (HT7.out.all hd8)
            have HOA8 := Lib.hid (HOA7.out.all hd8)
            have HOB8 := Lib.hid (HOB.out.all hd8)
            have HH8 := Lib.hid ((hd8.block _ hl7).trans HH7.out)
            have HOC := Lib.hid hoc
            clear hoc hd8 y0 y1 y2 y3 y4 y5 y6 HC1 HT7 HOA7 HOB HH7 HE7 HB7
            obtain ⟨A7, c7, hv7, hs7⟩ := (HO7.out.all (HDF.out.trans (HE8.out.mono HDF.out.size))).sl (F' := fun _ => True) (fun _ _ => trivial) (fun _ _ => trivial)
            rw [hln] at hv7 hs7
            subst hv7
            have hl8 : w.heap.size < w8.heap.size := (Array.getElem?_eq_some_iff.1 HH8.out).1
            have hc1 := list_spaces (HS.out.all HB8.out) hs7
            simp only [decide_true] at hc1
            have HC1 := Lib.hid hc1
            clear hc1 hs7
            go_upto_region 29 with (go_at_call 48; refine HC1.out.mono ?_; rintro e w9 ⟨rfl, hd9⟩)
            have HB9 := Lib.hid (HB8.out.trans (hd9.mono HB8.out.size))
            have HC2 := Lib.hid (law_listed (HS.out.all HB9.out))
            have HE9 := Lib.hid hd9
            have hs89 := hd9.size
            clear hd9 HC1
            go_wp2_with fail
            refine HC2.out.mono ?_
            rintro e w10 ⟨rfl, hd10⟩
            have HE10 := Lib.hid (HE9.out.trans (hd10.mono hs89))
            have HB10 := Lib.hid (HB9.out.trans (hd10.mono HB9.out.size))
            have HT10 := Lib.hid (HT8.out.all HE10.out)
            have HOA10 := Lib.hid (HOA8.out.all HE10.out)
            have HOB10 := Lib.hid (HOB8.out.all HE10.out)
            have HOC10 := Lib.hid (HOC.out.all HE10.out)
            have HH10 := Lib.hid ((HE10.out.block _ hl8).trans HH8.out)
            clear hd10 HC2 HE9 HE10 HB9 HT8 HOA8 HOB8 HOC HH8 HE8 HB8
            obtain ⟨y0, y1, y2, y3, y4, y5, y6⟩ := cells7 HH10.out
            obtain ⟨LA, hLA⟩ : ∃ LA, LA = l.take (addAt l yi) ++ y :: l.drop (addAt l yi) := ⟨_, rfl⟩
            obtain ⟨A9, c9, hv9, hs9⟩ := HT10.out.oa.sl (F' := fun _ => True) (fun _ _ => trivial) (fun _ _ => trivial)
            obtain ⟨A10, c10, hv10, hs10⟩ := HT10.out.ob.sl (F' := fun _ => True) (fun _ _ => trivial) (fun _ _ => trivial)
            obtain ⟨A11, c11, hv11, hs11⟩ := HT10.out.oc.sl (F' := fun _ => True) (fun _ _ => trivial) (fun _ _ => trivial)
            clear HT10 HTF HT
            rw [HWF.out, ← hLA] at hv9 hs9
            subst hv9 hv10 hv11
            obtain ⟨Aa, ca, hva, hsa⟩ := HOA10.out.sl (F' := fun _ => True) (fun _ _ => trivial) (fun _ _ => trivial)
            obtain ⟨Ab, cb, hvb, hsb⟩ := HOB10.out.sl (F' := fun _ => True) (fun _ _ => trivial) (fun _ _ => trivial)
            obtain ⟨Ac, cc, hvc, hsc⟩ := HOC10.out.sl (F' := fun _ => True) (fun _ _ => trivial) (fun _ _ => trivial)
            clear HOA10 HOB10 HOC10
            cases hlb : listedB l with
            | false =>
              have hE : addE l yi most = 2 := by unfold addE; rw [hlb]; simp
              have hP : placeE l yi = 2 := by unfold placeE; rw [hlb]; simp
              rw [hE, if_neg (by decide)] at hva
              rw [hP, if_neg (by decide)] at hvb hvc
              subst hva hvb hvc
              clear hs9 hs10 hs11 hsa hsb hsc hlb
              go_wp2
              all_goals
                go_ret
                exact ⟨rfl, HB10.out⟩
            | true =>
              rcases listed_cases hlb yi y with ⟨hf, hat⟩ | ⟨f, hfl, hf, hat, hfil, hmap⟩
              · rw [hln] at hat
                have hP : placeE l yi = 31 := by unfold placeE; rw [hlb, hf]; decide
                rw [hP, if_neg (by decide)] at hvb hvc
                subst hvb hvc
                clear hs10 hs11 hsb hsc
                by_cases hm1 : 1 ≤ yi
                · by_cases hm2 : yi ≤ 64
                  · by_cases hmo : most ≤ (k : Int)
                    · have hE : addE l yi most = 34 := by unfold addE; rw [hlb, hf, hln]; simp [hm1, hm2, hmo]
                      rw [hE, if_neg (by decide)] at hva
                      subst hva
                      clear hs9 hsa hlb hf
                      go_wp2
                      all_goals
                        go_ret
                        exact ⟨rfl, HB10.out⟩
                    · have hE : addE l yi most = 0 := by unfold addE; rw [hlb, hf, hln]; simp [hm1, hm2, hmo]
                      rw [hE, if_pos rfl, ← hLA] at hva hsa
                      subst hva
                      have hc1 := list_spaces hsa hs9
                      simp only [decide_true] at hc1
                      have hb1 : decide (yi < 1) = false := by simp; omega
                      have hb2 : decide (64 < yi) = false := by simp; omega
                      have hb3 : decide (most ≤ (k : Int)) = false := by simp; omega
                      have HC1 := Lib.hid hc1
                      clear hs9 hsa hlb hf hc1 hLA
                      go_wp2_with fail
                      refine HC1.out.mono ?_
                      rintro e w11 ⟨rfl, hd11⟩
                      go_wp2
                      all_goals
                        go_ret
                        exact ⟨rfl, HB10.out.trans (hd11.mono HB10.out.size)⟩
                  · have hE : addE l yi most = 2 := by unfold addE; rw [hlb]; simp [hm1, hm2]
                    rw [hE, if_neg (by decide)] at hva
                    subst hva
                    clear hs9 hsa hlb hf
                    go_wp2
                    all_goals
                      go_ret
                      exact ⟨rfl, HB10.out⟩
                · have hE : addE l yi most = 2 := by unfold addE; rw [hlb]; simp [hm1]
                  rw [hE, if_neg (by decide)] at hva
                  subst hva
                  clear hs9 hsa hlb hf
                  go_wp2
                  all_goals
                    go_ret
                    exact ⟨rfl, HB10.out⟩
              · rw [hln] at hat
                have hP : placeE l yi = 0 := by unfold placeE; rw [hlb, hf]; simp
                rw [hP, if_pos rfl, hf, Int.toNat_natCast] at hvb hvc hsb hsc
                obtain ⟨LB, hLB⟩ : ∃ LB, LB = l.set f y := ⟨_, rfl⟩
                obtain ⟨LC, hLC⟩ : ∃ LC, LC = l.eraseIdx f := ⟨_, rfl⟩
                have hB : LB = lm := by rw [hLB, HLM.out, hmap]
                have hC : LC = lf := by rw [hLC, HLF.out, hfil]
                rw [← hLB, hB] at hsb
                rw [← hLC, hC] at hsc
                rw [← hLB, hB] at hvb
                rw [← hLC, hC] at hvc
                subst hvb hvc
                have hc1 := list_spaces hsb hs11
                simp only [decide_true] at hc1
                have HC1 := Lib.hid hc1
                have HSC := Lib.hid hsc
                have HS10 := Lib.hid hs10
                have hEa : (addE l yi most = 36 ∧ (decide (1 ≤ yi) && decide (yi ≤ 64)) = true) ∨ (addE l yi most = 2 ∧ (decide (1 ≤ yi) && decide (yi ≤ 64)) = false) := by
                  unfold addE
                  rw [hlb, hf]
                  cases hmm : (decide (1 ≤ yi) && decide (yi ≤ 64)) <;> simp
                have hbf : decide ((f : Int) < 0) = false := by simp
                have hbg : decide ((0 : Int) ≤ (f : Int)) = true := by simp
                clear hs9 hs10 hs11 hsa hsb hsc hlb hf hfil hmap hc1 hLA hLB hLC hB hC
                have fin : ∀ w11, Below w10.heap.size w10 w11 → Calls Try.prog 48 #[.slice Ac lf.length cc, .slice A10 lf.length c10] w11 fun e w' => e = .returned (.bool true) ∧ Below w11.heap.size w11 w' := fun w11 hd => by
                  have := list_spaces (HSC.out.all hd) (HS10.out.all hd)
                  simpa only [decide_true] using this
                have HFN := Lib.hid fin
                clear fin
                rcases hEa with ⟨hE, hmm⟩ | ⟨hE, hmm⟩
                · rw [hE, if_neg (by decide)] at hva
                  subst hva
                  simp only [Bool.and_eq_true, decide_eq_true_eq] at hmm
                  have hb1 : decide (yi < 1) = false := by simp; omega
                  have hb2 : decide (64 < yi) = false := by simp; omega
                  go_wp2_with fail
                  refine HC1.out.mono ?_
                  rintro e w11 ⟨rfl, hd11⟩
                  have HFN1 := Lib.hid (HFN.out w11 hd11)
                  go_wp2_with fail
                  refine HFN1.out.mono ?_
                  rintro e w12 ⟨rfl, hd12⟩
                  go_wp2
                  go_ret
                  exact ⟨rfl, HB10.out.trans ((hd11.trans (hd12.mono hd11.size)).mono HB10.out.size)⟩
                · rw [hE, if_neg (by decide)] at hva
                  subst hva
                  by_cases hm1 : 1 ≤ yi
                  · have hm2 : ¬ yi ≤ 64 := fun h => by simp [hm1, h] at hmm
                    have hb1 : decide (yi < 1) = false := by simp; omega
                    have hb2 : decide (64 < yi) = true := by simp; omega
                    clear hmm
                    go_wp2_with fail
                    refine HC1.out.mono ?_
                    rintro e w11 ⟨rfl, hd11⟩
                    have HFN1 := Lib.hid (HFN.out w11 hd11)
                    go_wp2_with fail
                    refine HFN1.out.mono ?_
                    rintro e w12 ⟨rfl, hd12⟩
                    go_wp2
                    go_ret
                    exact ⟨rfl, HB10.out.trans ((hd11.trans (hd12.mono hd11.size)).mono HB10.out.size)⟩
                  · have hb1 : decide (yi < 1) = true := by simp; omega
                    clear hmm
                    go_wp2_with fail
                    refine HC1.out.mono ?_
                    rintro e w11 ⟨rfl, hd11⟩
                    have HFN1 := Lib.hid (HFN.out w11 hd11)
                    go_wp2_with fail
                    refine HFN1.out.mono ?_
                    rintro e w12 ⟨rfl, hd12⟩
                    go_wp2
                    go_ret
                    exact ⟨rfl, HB10.out.trans ((hd11.trans (hd12.mono hd11.size)).mono HB10.out.size)⟩
end
end Go.Proofs.Ytdgcfgiedclmcaa
