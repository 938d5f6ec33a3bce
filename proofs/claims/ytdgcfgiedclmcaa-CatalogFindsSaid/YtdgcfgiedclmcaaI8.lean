/- The walk of the law CatalogFinds. -/
import Derived.Test.YtdgcfgiedclmcaaI5
import Derived.Test.YtdgcfgiedclmcaaI7
import Derived.StillTailTactics
namespace Go.Proofs.Ytdgcfgiedclmcaa
open Go.RowKit

theorem fidx_take_succ {α : Type} {p : α → Bool} {l : List α} {k : Nat} (hk : k < l.length) :
    fidx p (l.take (k + 1)) = if 0 ≤ fidx p (l.take k) then fidx p (l.take k) else if p l[k] then (k : Int) else -1 := by
  have hlt : (l.take k).length = k := by rw [List.length_take]; omega
  unfold fidx
  rw [List.take_succ_eq_append_getElem hk, List.findIdx?_append]
  cases h : (l.take k).findIdx? p with
  | some j => simp
  | none =>
    cases hp : p l[k] <;> simp [hp, hlt, List.findIdx?_cons]
theorem filter_take_succ {α : Type} {p : α → Bool} {l : List α} {k : Nat} (hk : k < l.length) : (l.take (k + 1)).filter p = (l.take k).filter p ++ (if p l[k] then [l[k]] else []) := by
  rw [List.take_succ_eq_append_getElem hk, List.filter_append]
  cases hp : p l[k] <;> simp [hp]
section
variable {w : World} {A : Option Addr} {n c : Nat}
set_option maxRecDepth 100000 in
set_option maxHeartbeats 2000000 in
theorem finds_law {l : List Space} (h : Sl Enc.space w (fun b => b < w.heap.size) A n c l) (id : Int) (_ : (Lit.int .i64 id).wf = true) (t : Int) (_ : (Lit.int .i64 t).wf = true) :
    Calls Try.prog 9 #[.slice A n c, .int .i64 id, .int .i64 t] w fun e w' => e = .returned (.bool true) ∧ Below w.heap.size w w' := by
  have hln := h.len
  have HS := Lib.hid h
  have HA := Lib.hid (law_awake w)
  have HFW := Lib.hid fun (W : World) (hb : Below w.heap.size w W) => few_spaces (h.all hb)
  clear h
  go_enter Try.func9, Try.ntmps9
  go_wp2_with fail
  refine HA.out.mono ?_
  rintro e w1 ⟨rfl, hb1⟩
  have HF1 := Lib.hid (HFW.out w1 hb1)
  go_wp2_with fail
  refine HF1.out.mono ?_
  rintro e w2 ⟨rfl, hb2⟩
  replace hb2 := below_then hb1 hb1.size hb2
  have hs2 := hb2.size
  clear HA HFW HF1 hb1
  cases hfw : (l.all fewSpace && decide (l.length ≤ 40)) with
  | false =>
    clear hfw
    go_wp2
    go_ret
    exact ⟨rfl, hb2⟩
  | true =>
    have hn40 : n ≤ 40 := by
      simp only [Bool.and_eq_true, decide_eq_true_eq] at hfw
      omega
    clear hfw
    have HB2 := Lib.hid hb2
    clear hb2
    go_wp2
    go_loopw [7, 8, 22] (fun a v i wr => ∃ k : Nat, k ≤ n ∧ i = .int .i64 k ∧ a = .int .i64 (findI (l.take k) id) ∧ Own Enc.space 77 wr w2.heap.size (fun b => b < w.heap.size) v ((l.take k).filter fun x => x.tenant == t) ∧ Below w2.heap.size w2 wr) (fun _ _ i _ => n - (intOf i).toNat)
    case atStart => exact ⟨0, by omega, by simp, by simp [findI, fidx], (Own.nil _ _ _ _).weaken (fun _ h => h.elim) (fun g hg => by cases hg) (fun _ h => by omega), .refl _ _⟩
    case round =>
      obtain ⟨k, hk, rfl, rfl, ho, hd⟩ := hrel
      have hsz := hd.size
      by_cases hlt : k < n
      · have hka : k < l.length := by omega
        obtain ⟨ad, Ar, nr, cr, Ae, ce, At, ct, As, cs, rfl, a0, a1, a2, a3, a4, a5, a6, ra⟩ := (HS.out.all (HB2.out.trans (hd.mono hs2))).space k hka
        have HQ : Hid (findI (l.take (k + 1)) id = if 0 ≤ findI (l.take k) id then findI (l.take k) id else if l[k].id == id then (k : Int) else -1) := Lib.hid (fidx_take_succ hka)
        have HT : Hid ((l.take (k + 1)).filter (fun x => x.tenant == t) = (l.take k).filter (fun x => x.tenant == t) ++ (if l[k].tenant == t then [l[k]] else [])) := Lib.hid (filter_take_succ hka)
        have HLL : Hid (((l.take k).filter (fun x => x.tenant == t)).length ≤ k) := Lib.hid (Nat.le_trans (List.length_filter_le _ _) (by rw [List.length_take]; omega))
        have HQB : Hid (-1 ≤ findI (l.take k) id) := Lib.hid (fidx_bd _ _).1
        generalize findI (l.take k) id = q at *
        generalize (l.take k).filter (fun x => x.tenant == t) = ls at *
        obtain ⟨x, hx⟩ : ∃ x, l[k] = x := ⟨_, rfl⟩
        rw [hx] at HQ HT a0 a1 a2 a4 a5 a6 ra
        have HR := Lib.hid ra
        have HO := Lib.hid ho
        have HD := Lib.hid hd
        clear hx ra ho hd
        have hll : ls.length ≤ k := HLL.out
        have hgn : ∀ g, u8.ownBlock = some g → ¬ g < w.heap.size := fun g hg => by have := (HO.out.blk hg).1; omega
        obtain ⟨i0, hi0⟩ : ∃ i0, x.id = i0 := ⟨_, rfl⟩
        obtain ⟨t0, ht0⟩ : ∃ t0, x.tenant = t0 := ⟨_, rfl⟩
        rw [hi0] at HQ a0 HR
        rw [ht0] at HT a1 HR
        clear hi0 ht0
        by_cases ht : t0 = t
        · subst t0
          have HT1 : Hid ((l.take (k + 1)).filter (fun x => x.tenant == t) = ls ++ [x]) := Lib.hid (by rw [HT.out]; simp)
          clear HT
          rcases Int.lt_or_le q 0 with hq | hq
          · by_cases hid : i0 = id
            · subst i0
              have HQ1 : Hid (findI (l.take (k + 1)) id = (k : Int)) := Lib.hid (by rw [HQ.out, if_neg (by omega)]; simp)
              clear HQ
              have hbb : Below wr.heap.size wr ((wr.alloc (.cells #[.int .i64 id, .int .i64 t, .int .i64 x.sectors, .slice Ar nr cr, .slice Ae x.ext ce, .slice At x.tree ct, .slice As x.sums cs] 77)).alloc (.cells #[.int .i64 id, .int .i64 t, .int .i64 x.sectors, .slice Ar nr cr, .slice Ae x.ext ce, .slice At x.tree ct, .slice As x.sums cs] 77)) := ((Below.refl _ wr).alloc (Nat.le_refl _) _).alloc (by simp) _
              have HO2 := Lib.hid (HO.out.all hbb)
              have HSR := Lib.hid (Sr.ofBlk (vb := wr.heap.size + 1) (heap_alloc_at (w := (wr.alloc (.cells #[.int .i64 id, .int .i64 t, .int .i64 x.sectors, .slice Ar nr cr, .slice Ae x.ext ce, .slice At x.tree ct, .slice As x.sums cs] 77))) (o := (.cells #[.int .i64 id, .int .i64 t, .int .i64 x.sectors, .slice Ar nr cr, .slice Ae x.ext ce, .slice At x.tree ct, .slice As x.sums cs] 77)) (by simp)) (Enc.space.keep HR.out (.all hbb _)))
              have HBB := Lib.hid hbb
              clear hbb
              go_wp2_with (at_builtin; refine wpl_app (e := Enc.space) (E := 77) (base := w2.heap.size) rfl _ _ 72 rfl Try.underlying72 Try.infoSpace rfl rfl rfl HO2.out HSR.out hgn (by simp; omega) (by omega) (by omega) ?_; intro v1 w3 ho1 hg1 _ _)
              have hd3 : Below w2.heap.size w2 w3 := (HD.out.trans (HBB.out.mono hsz)).grown hg1 (by simp; omega) (fun g hg => by have := (HO.out.blk hg).1; omega)
              have hsz3 := hd3.size
              have ho3 : Own Enc.space 77 w3 w2.heap.size (fun b => b < w.heap.size) v1 ((l.take (k + 1)).filter (fun x => x.tenant == t)) := by
                rw [HT1.out]
                exact ho1.weaken (fun b hb => hb.elim (fun h => h) (·.1)) (fun g hg => by have := (ho1.blk hg).1; omega) (fun b hb => by omega)
              go_roundw
              case rel => exact ⟨k + 1, by omega, by go_num, by rw [HQ1.out], ho3, hd3⟩
              case measure => simp [intOf]; omega
            · have HQ1 : Hid (findI (l.take (k + 1)) id = q) := Lib.hid (by rw [HQ.out, if_neg (by omega)]; simp [hid]; have := HQB.out; omega)
              clear HQ
              have hbb : Below wr.heap.size wr ((wr.alloc (.cells #[.int .i64 i0, .int .i64 t, .int .i64 x.sectors, .slice Ar nr cr, .slice Ae x.ext ce, .slice At x.tree ct, .slice As x.sums cs] 77)).alloc (.cells #[.int .i64 i0, .int .i64 t, .int .i64 x.sectors, .slice Ar nr cr, .slice Ae x.ext ce, .slice At x.tree ct, .slice As x.sums cs] 77)) := ((Below.refl _ wr).alloc (Nat.le_refl _) _).alloc (by simp) _
              have HO2 := Lib.hid (HO.out.all hbb)
              have HSR := Lib.hid (Sr.ofBlk (vb := wr.heap.size + 1) (heap_alloc_at (w := (wr.alloc (.cells #[.int .i64 i0, .int .i64 t, .int .i64 x.sectors, .slice Ar nr cr, .slice Ae x.ext ce, .slice At x.tree ct, .slice As x.sums cs] 77))) (o := (.cells #[.int .i64 i0, .int .i64 t, .int .i64 x.sectors, .slice Ar nr cr, .slice Ae x.ext ce, .slice At x.tree ct, .slice As x.sums cs] 77)) (by simp)) (Enc.space.keep HR.out (.all hbb _)))
              have HBB := Lib.hid hbb
              clear hbb
              go_wp2_with (at_builtin; refine wpl_app (e := Enc.space) (E := 77) (base := w2.heap.size) rfl _ _ 72 rfl Try.underlying72 Try.infoSpace rfl rfl rfl HO2.out HSR.out hgn (by simp; omega) (by omega) (by omega) ?_; intro v1 w3 ho1 hg1 _ _)
              have hd3 : Below w2.heap.size w2 w3 := (HD.out.trans (HBB.out.mono hsz)).grown hg1 (by simp; omega) (fun g hg => by have := (HO.out.blk hg).1; omega)
              have hsz3 := hd3.size
              have ho3 : Own Enc.space 77 w3 w2.heap.size (fun b => b < w.heap.size) v1 ((l.take (k + 1)).filter (fun x => x.tenant == t)) := by
                rw [HT1.out]
                exact ho1.weaken (fun b hb => hb.elim (fun h => h) (·.1)) (fun g hg => by have := (ho1.blk hg).1; omega) (fun b hb => by omega)
              go_roundw
              case rel => exact ⟨k + 1, by omega, by go_num, by rw [HQ1.out], ho3, hd3⟩
              case measure => simp [intOf]; omega
          · have HQ1 : Hid (findI (l.take (k + 1)) id = q) := Lib.hid (by rw [HQ.out, if_pos hq])
            have hqd : decide (q < 0) = false := by simp; omega
            clear HQ
            have hbb : Below wr.heap.size wr ((wr.alloc (.cells #[.int .i64 i0, .int .i64 t, .int .i64 x.sectors, .slice Ar nr cr, .slice Ae x.ext ce, .slice At x.tree ct, .slice As x.sums cs] 77)).alloc (.cells #[.int .i64 i0, .int .i64 t, .int .i64 x.sectors, .slice Ar nr cr, .slice Ae x.ext ce, .slice At x.tree ct, .slice As x.sums cs] 77)) := ((Below.refl _ wr).alloc (Nat.le_refl _) _).alloc (by simp) _
            have HO2 := Lib.hid (HO.out.all hbb)
            have HSR := Lib.hid (Sr.ofBlk (vb := wr.heap.size + 1) (heap_alloc_at (w := (wr.alloc (.cells #[.int .i64 i0, .int .i64 t, .int .i64 x.sectors, .slice Ar nr cr, .slice Ae x.ext ce, .slice At x.tree ct, .slice As x.sums cs] 77))) (o := (.cells #[.int .i64 i0, .int .i64 t, .int .i64 x.sectors, .slice Ar nr cr, .slice Ae x.ext ce, .slice At x.tree ct, .slice As x.sums cs] 77)) (by simp)) (Enc.space.keep HR.out (.all hbb _)))
            have HBB := Lib.hid hbb
            clear hbb
            go_wp2_with (at_builtin; refine wpl_app (e := Enc.space) (E := 77) (base := w2.heap.size) rfl _ _ 72 rfl Try.underlying72 Try.infoSpace rfl rfl rfl HO2.out HSR.out hgn (by simp; omega) (by omega) (by omega) ?_; intro v1 w3 ho1 hg1 _ _)
            have hd3 : Below w2.heap.size w2 w3 := (HD.out.trans (HBB.out.mono hsz)).grown hg1 (by simp; omega) (fun g hg => by have := (HO.out.blk hg).1; omega)
            have hsz3 := hd3.size
            have ho3 : Own Enc.space 77 w3 w2.heap.size (fun b => b < w.heap.size) v1 ((l.take (k + 1)).filter (fun x => x.tenant == t)) := by
              rw [HT1.out]
              exact ho1.weaken (fun b hb => hb.elim (fun h => h) (·.1)) (fun g hg => by have := (ho1.blk hg).1; omega) (fun b hb => by omega)
            go_roundw
            case rel => exact ⟨k + 1, by omega, by go_num, by rw [HQ1.out], ho3, hd3⟩
            case measure => simp [intOf]; omega
        · have HT1 : Hid ((l.take (k + 1)).filter (fun x => x.tenant == t) = ls) := Lib.hid (by rw [HT.out]; simp [ht])
          clear HT
          rcases Int.lt_or_le q 0 with hq | hq
          · by_cases hid : i0 = id
            · subst i0
              have HQ1 : Hid (findI (l.take (k + 1)) id = (k : Int)) := Lib.hid (by rw [HQ.out, if_neg (by omega)]; simp)
              clear HQ
              go_wp2
              go_roundw
              case rel => exact ⟨k + 1, by omega, by go_num, by rw [HQ1.out], by rw [HT1.out]; exact HO.out.alloc _, HD.out.alloc hsz _⟩
              case measure => simp [intOf]; omega
            · have HQ1 : Hid (findI (l.take (k + 1)) id = q) := Lib.hid (by rw [HQ.out, if_neg (by omega)]; simp [hid]; have := HQB.out; omega)
              clear HQ
              go_wp2
              go_roundw
              case rel => exact ⟨k + 1, by omega, by go_num, by rw [HQ1.out], by rw [HT1.out]; exact HO.out.alloc _, HD.out.alloc hsz _⟩
              case measure => simp [intOf]; omega
          · have HQ1 : Hid (findI (l.take (k + 1)) id = q) := Lib.hid (by rw [HQ.out, if_pos hq])
            have hqd : decide (q < 0) = false := by simp; omega
            clear HQ
            go_wp2
            go_roundw
            case rel => exact ⟨k + 1, by omega, by go_num, by rw [HQ1.out], by rw [HT1.out]; exact HO.out.alloc _, HD.out.alloc hsz _⟩
            case measure => simp [intOf]; omega
      · obtain rfl : k = n := by omega
        rw [List.take_of_length_le (by omega)] at ho ⊢
        have HD := Lib.hid (HB2.out.trans (hd.mono hs2))
        have HO := Lib.hid ho
        have hbd := fidx_bd (fun x : Space => x.id == id) l
        rw [show fidx (fun x : Space => x.id == id) l = findI l id from rfl] at hbd
        clear ho hd HB2
        have HOW : Hid (ownedOf l id t = if 0 ≤ findI l id ∧ (l.getD (findI l id).toNat space0).tenant = t then some (l.getD (findI l id).toNat space0) else none) := Lib.hid rfl
        rcases Int.lt_or_le (findI l id) 0 with hq | hq
        · have hr : findI l id = -1 := by omega
          have hw : ownedOf l id t = none := by rw [HOW.out, if_neg (by omega)]
          have hd0 : decide ((0 : Int) ≤ -1) = false := by decide
          have hm0 : max (-1 : Int) 0 = 0 := by omega
          rw [hr] at hbd hq ⊢
          have HC := Lib.hid (cat_find (i := id) (HS.out.all HD.out))
          simp only [hr, hd0, hm0] at HC
          go_wp2_with fail
          refine HC.out.mono ?_
          rintro e w3 ⟨rfl, hd3⟩
          have HO3 := Lib.hid (HO.out.all hd3)
          have HD3 := Lib.hid (HD.out.trans (hd3.mono HD.out.size))
          have HW := Lib.hid (cat_owned (i := id) (t := t) (HS.out.all HD3.out))
          rw [hw] at HW
          simp only [Option.isSome, Option.getD, Bool.false_eq_true, if_false] at HW
          clear HC hd3 HO
          go_wp2_with fail
          refine HW.out.mono ?_
          rintro e w4 ⟨vs, rfl, hrel, hd4⟩
          have HO4 := Lib.hid (HO3.out.all hd4)
          have HD4 := Lib.hid (HD3.out.trans (hd4.mono HD3.out.size))
          have HR4 := Lib.hid hrel
          obtain ⟨Ar, nr, cr, Ae, ce, At, ct, As, cs, rfl, -⟩ := hrel
          clear HW hd4 HO3 HD3
          obtain ⟨z, hz⟩ : ∃ z, z = space0 := ⟨_, rfl⟩
          simp only [← hz] at HR4 ⊢
          have HZ := Lib.hid hz
          clear hz
          obtain ⟨w5, hw5⟩ : ∃ w5, w5 = w4.alloc (.cells #[.int .i64 z.id, .int .i64 z.tenant, .int .i64 z.sectors, .slice Ar nr cr, .slice Ae z.ext ce, .slice At z.tree ct, .slice As z.sums cs] 77) := ⟨_, rfl⟩
          have hb5 : Below w4.heap.size w4 w5 := by rw [hw5]; exact (Below.refl _ w4).alloc (Nat.le_refl _) _
          have hh5 : w5.heap[w4.heap.size]? = some (.cells #[.int .i64 z.id, .int .i64 z.tenant, .int .i64 z.sectors, .slice Ar nr cr, .slice Ae z.ext ce, .slice At z.tree ct, .slice As z.sums cs] 77 (0, 0)) := by rw [hw5]; exact heap_alloc_new w4 _
          have hl5 : w4.heap.size < w5.heap.size := (Array.getElem?_eq_some_iff.1 hh5).1
          have HD5 := Lib.hid (HD4.out.trans (hb5.mono HD4.out.size))
          have HO5 := Lib.hid (HO4.out.all hb5)
          have HR5 := Lib.hid (Enc.space.keep HR4.out (.all hb5 _))
          have HLA := Lib.hid (cat_listed (HS.out.all HD5.out))
          clear hb5 HO4 HR4
          go_wp2_with fail
          simp only [← hw5]
          refine HLA.out.mono ?_
          rintro e w6 ⟨rfl, hd6⟩
          clear hw5 HLA
          have HD6 := Lib.hid (HD5.out.trans (hd6.mono HD5.out.size))
          have HLB := Lib.hid (law_listed (HS.out.all HD6.out))
          go_wp2_with fail
          refine HLB.out.mono ?_
          rintro e w7 ⟨rfl, hd7⟩
          have HD7 := Lib.hid (HD6.out.trans (hd7.mono HD6.out.size))
          have HE7 := Lib.hid (hd6.trans (hd7.mono hd6.size))
          have HOF := Lib.hid (cat_of (t := t) (HS.out.all HD7.out) (by omega))
          clear HLB hd6 hd7 HD5 HD6
          go_wp2_with fail
          refine HOF.out.mono ?_
          rintro e w8 ⟨v2, F2, rfl, ho2, hd8⟩
          have HD8 := Lib.hid (HD7.out.trans (hd8.mono HD7.out.size))
          have HE8 := Lib.hid (HE7.out.trans (hd8.mono HE7.out.size))
          obtain ⟨A2, c2, rfl, hs2'⟩ := ho2.sl (F' := fun _ => True) (fun _ _ => trivial) (fun _ _ => trivial)
          obtain ⟨A3, c3, hu8, hs3'⟩ := (HO5.out.all HE8.out).sl (F' := fun _ => True) (fun _ _ => trivial) (fun _ _ => trivial)
          subst hu8
          have HLS := Lib.hid (list_spaces hs2' hs3')
          clear HOF HE7 HD7 hd8 ho2 HO5 hs2' hs3'
          go_wp2_with fail
          simp only [decide_true] at HLS
          refine HLS.out.mono ?_
          rintro e w9 ⟨rfl, hd9⟩
          have HD9 := Lib.hid (HD8.out.trans (hd9.mono HD8.out.size))
          have HE9 := Lib.hid (HE8.out.trans (hd9.mono HE8.out.size))
          have HR9 := Lib.hid (Enc.space.keep HR5.out (.all HE9.out _))
          have hh9 := (HE9.out.block _ hl5).trans hh5
          have hl9 : w4.heap.size < w9.heap.size := (Array.getElem?_eq_some_iff.1 hh9).1
          have z0 : w9.cell? ⟨w4.heap.size, 0, none⟩ = some (.int .i64 z.id) := by simp [World.cell?, hh9]
          have z1 : w9.cell? ⟨w4.heap.size, 1, none⟩ = some (.int .i64 z.tenant) := by simp [World.cell?, hh9]
          have z2 : w9.cell? ⟨w4.heap.size, 2, none⟩ = some (.int .i64 z.sectors) := by simp [World.cell?, hh9]
          have z3 : w9.cell? ⟨w4.heap.size, 3, none⟩ = some (.slice Ar nr cr) := by simp [World.cell?, hh9]
          have z4 : w9.cell? ⟨w4.heap.size, 4, none⟩ = some (.slice Ae z.ext ce) := by simp [World.cell?, hh9]
          have z5 : w9.cell? ⟨w4.heap.size, 5, none⟩ = some (.slice At z.tree ct) := by simp [World.cell?, hh9]
          have z6 : w9.cell? ⟨w4.heap.size, 6, none⟩ = some (.slice As z.sums cs) := by simp [World.cell?, hh9]
          clear HLS hd9 HD8 HE8 HR5 hh5 hl5 hh9
          go_wp2_with fail
          refine (same_space HR9.out (space0_rel w9 (fun _ => False))).mono ?_
          rintro e w10 ⟨rfl, hd10⟩
          have hzd : decide (z = space0) = true := by simp [HZ.out]
          rw [hzd]
          go_wp2
          go_ret
          exact ⟨rfl, HD9.out.trans (hd10.mono HD9.out.size)⟩
        · obtain ⟨k1, hr⟩ : ∃ k1 : Nat, findI l id = k1 := ⟨(findI l id).toNat, by omega⟩
          have hk1 : k1 < l.length := by omega
          have hg1 : l.getD (findI l id).toNat space0 = l[k1] := by rw [hr]; simp [List.getD, hk1]
          rw [hg1] at HOW
          have hd0 : decide ((0 : Int) ≤ (k1 : Int)) = true := by simp
          have hm0 : max (k1 : Int) 0 = k1 := by omega
          have hk1n : k1 < k := by omega
          rw [hr] at hbd hq ⊢
          by_cases htn : l[k1].tenant = t
          · have hw : ownedOf l id t = some l[k1] := by rw [HOW.out, if_pos ⟨by omega, htn⟩]
            have HTN := Lib.hid htn
            clear htn hg1
            have HC := Lib.hid (cat_find (i := id) (HS.out.all HD.out))
            simp only [hr, hd0, hm0] at HC
            go_wp2_with fail
            refine HC.out.mono ?_
            rintro e w3 ⟨rfl, hd3⟩
            have HO3 := Lib.hid (HO.out.all hd3)
            have HD3 := Lib.hid (HD.out.trans (hd3.mono HD.out.size))
            have HW := Lib.hid (cat_owned (i := id) (t := t) (HS.out.all HD3.out))
            rw [hw] at HW
            simp only [Option.isSome, Option.getD, if_true] at HW
            clear HC hd3 HO
            go_wp2_with fail
            refine HW.out.mono ?_
            rintro e w4 ⟨vs, rfl, hrel, hd4⟩
            have HO4 := Lib.hid (HO3.out.all hd4)
            have HD4 := Lib.hid (HD3.out.trans (hd4.mono HD3.out.size))
            have HR4 := Lib.hid hrel
            obtain ⟨Ar, nr, cr, Ae, ce, At, ct, As, cs, rfl, -⟩ := hrel
            clear HW hd4 HO3 HD3
            obtain ⟨z, hz⟩ : ∃ z, z = l[k1] := ⟨_, rfl⟩
            simp only [← hz] at HR4 ⊢
            have HZ := Lib.hid hz
            clear hz
            obtain ⟨w5, hw5⟩ : ∃ w5, w5 = w4.alloc (.cells #[.int .i64 z.id, .int .i64 z.tenant, .int .i64 z.sectors, .slice Ar nr cr, .slice Ae z.ext ce, .slice At z.tree ct, .slice As z.sums cs] 77) := ⟨_, rfl⟩
            have hb5 : Below w4.heap.size w4 w5 := by rw [hw5]; exact (Below.refl _ w4).alloc (Nat.le_refl _) _
            have hh5 : w5.heap[w4.heap.size]? = some (.cells #[.int .i64 z.id, .int .i64 z.tenant, .int .i64 z.sectors, .slice Ar nr cr, .slice Ae z.ext ce, .slice At z.tree ct, .slice As z.sums cs] 77 (0, 0)) := by rw [hw5]; exact heap_alloc_new w4 _
            have hl5 : w4.heap.size < w5.heap.size := (Array.getElem?_eq_some_iff.1 hh5).1
            have HD5 := Lib.hid (HD4.out.trans (hb5.mono HD4.out.size))
            have HO5 := Lib.hid (HO4.out.all hb5)
            have HR5 := Lib.hid (Enc.space.keep HR4.out (.all hb5 _))
            have HLA := Lib.hid (cat_listed (HS.out.all HD5.out))
            clear hb5 HO4 HR4
            go_wp2_with fail
            simp only [← hw5]
            refine HLA.out.mono ?_
            rintro e w6 ⟨rfl, hd6⟩
            clear hw5 HLA
            have HD6 := Lib.hid (HD5.out.trans (hd6.mono HD5.out.size))
            have HLB := Lib.hid (law_listed (HS.out.all HD6.out))
            go_wp2_with fail
            refine HLB.out.mono ?_
            rintro e w7 ⟨rfl, hd7⟩
            have HD7 := Lib.hid (HD6.out.trans (hd7.mono HD6.out.size))
            have HE7 := Lib.hid (hd6.trans (hd7.mono hd6.size))
            have HOF := Lib.hid (cat_of (t := t) (HS.out.all HD7.out) (by omega))
            clear HLB hd6 hd7 HD5 HD6
            go_wp2_with fail
            refine HOF.out.mono ?_
            rintro e w8 ⟨v2, F2, rfl, ho2, hd8⟩
            have HD8 := Lib.hid (HD7.out.trans (hd8.mono HD7.out.size))
            have HE8 := Lib.hid (HE7.out.trans (hd8.mono HE7.out.size))
            obtain ⟨A2, c2, rfl, hs2'⟩ := ho2.sl (F' := fun _ => True) (fun _ _ => trivial) (fun _ _ => trivial)
            obtain ⟨A3, c3, hu8, hs3'⟩ := (HO5.out.all HE8.out).sl (F' := fun _ => True) (fun _ _ => trivial) (fun _ _ => trivial)
            subst hu8
            have HLS := Lib.hid (list_spaces hs2' hs3')
            clear HOF HE7 HD7 hd8 ho2 HO5 hs2' hs3'
            go_wp2_with fail
            simp only [decide_true] at HLS
            refine HLS.out.mono ?_
            rintro e w9 ⟨rfl, hd9⟩
            have HD9 := Lib.hid (HD8.out.trans (hd9.mono HD8.out.size))
            have HE9 := Lib.hid (HE8.out.trans (hd9.mono HE8.out.size))
            have HR9 := Lib.hid (Enc.space.keep HR5.out (.all HE9.out _))
            have hh9 := (HE9.out.block _ hl5).trans hh5
            have hl9 : w4.heap.size < w9.heap.size := (Array.getElem?_eq_some_iff.1 hh9).1
            have z0 : w9.cell? ⟨w4.heap.size, 0, none⟩ = some (.int .i64 z.id) := by simp [World.cell?, hh9]
            have z1 : w9.cell? ⟨w4.heap.size, 1, none⟩ = some (.int .i64 z.tenant) := by simp [World.cell?, hh9]
            have z2 : w9.cell? ⟨w4.heap.size, 2, none⟩ = some (.int .i64 z.sectors) := by simp [World.cell?, hh9]
            have z3 : w9.cell? ⟨w4.heap.size, 3, none⟩ = some (.slice Ar nr cr) := by simp [World.cell?, hh9]
            have z4 : w9.cell? ⟨w4.heap.size, 4, none⟩ = some (.slice Ae z.ext ce) := by simp [World.cell?, hh9]
            have z5 : w9.cell? ⟨w4.heap.size, 5, none⟩ = some (.slice At z.tree ct) := by simp [World.cell?, hh9]
            have z6 : w9.cell? ⟨w4.heap.size, 6, none⟩ = some (.slice As z.sums cs) := by simp [World.cell?, hh9]
            clear HLS hd9 HD8 HE8 HR5 hh5 hl5 hh9
            obtain ⟨ad, Br, mr, dr, Be, de, Bt, dt, Bs, ds, rfl, a0, a1, a2, a3, a4, a5, a6, ra⟩ := (HS.out.all HD9.out).space k1 hk1
            have HRL := Lib.hid ra
            have htb : (l[k1].tenant == t) = true := by simp [HTN.out]
            have HSS : Hid (∀ W, Below w9.heap.size w9 W → Calls Try.prog 50 #[.agg #[.int .i64 z.id, .int .i64 z.tenant, .int .i64 z.sectors, .slice Ar nr cr, .slice Ae z.ext ce, .slice At z.tree ct, .slice As z.sums cs], .agg #[.int .i64 l[k1].id, .int .i64 l[k1].tenant, .int .i64 l[k1].sectors, .slice Br mr dr, .slice Be l[k1].ext de, .slice Bt l[k1].tree dt, .slice Bs l[k1].sums ds]] W fun e w' => e = .returned (.bool true) ∧ Below W.heap.size W w') := Lib.hid fun W hW => by
              have := same_space (Enc.space.keep HR9.out (.all hW _)) (Enc.space.keep HRL.out (.all hW _))
              rwa [show decide (z = l[k1]) = true by simp [HZ.out]] at this
            have hk1n : k1 < k := by omega
            clear ra
            go_wp2_with fail
            go_still_tail 8, (by kernel_rfl)
            change wpList _ _ _ _ _ w9.drew
            have hdw : Below w9.heap.size w9 w9.drew := below_drewN (.refl _ w9) 1
            generalize w9.drew = w9' at *
            go_wp2_with fail
            refine (HSS.out _ hdw).mono ?_
            rintro e w10 ⟨rfl, hd10⟩
            go_wp2
            go_ret
            exact ⟨rfl, HD9.out.trans ((hdw.trans (hd10.mono hdw.size)).mono HD9.out.size)⟩
          · have hw : ownedOf l id t = none := by rw [HOW.out, if_neg (fun h => htn h.2)]
            have HTN := Lib.hid htn
            clear htn hg1
            have HC := Lib.hid (cat_find (i := id) (HS.out.all HD.out))
            simp only [hr, hd0, hm0] at HC
            go_wp2_with fail
            refine HC.out.mono ?_
            rintro e w3 ⟨rfl, hd3⟩
            have HO3 := Lib.hid (HO.out.all hd3)
            have HD3 := Lib.hid (HD.out.trans (hd3.mono HD.out.size))
            have HW := Lib.hid (cat_owned (i := id) (t := t) (HS.out.all HD3.out))
            rw [hw] at HW
            simp only [Option.isSome, Option.getD, Bool.false_eq_true, if_false] at HW
            clear HC hd3 HO
            go_wp2_with fail
            refine HW.out.mono ?_
            rintro e w4 ⟨vs, rfl, hrel, hd4⟩
            have HO4 := Lib.hid (HO3.out.all hd4)
            have HD4 := Lib.hid (HD3.out.trans (hd4.mono HD3.out.size))
            have HR4 := Lib.hid hrel
            obtain ⟨Ar, nr, cr, Ae, ce, At, ct, As, cs, rfl, -⟩ := hrel
            clear HW hd4 HO3 HD3
            obtain ⟨z, hz⟩ : ∃ z, z = space0 := ⟨_, rfl⟩
            simp only [← hz] at HR4 ⊢
            have HZ := Lib.hid hz
            clear hz
            obtain ⟨w5, hw5⟩ : ∃ w5, w5 = w4.alloc (.cells #[.int .i64 z.id, .int .i64 z.tenant, .int .i64 z.sectors, .slice Ar nr cr, .slice Ae z.ext ce, .slice At z.tree ct, .slice As z.sums cs] 77) := ⟨_, rfl⟩
            have hb5 : Below w4.heap.size w4 w5 := by rw [hw5]; exact (Below.refl _ w4).alloc (Nat.le_refl _) _
            have hh5 : w5.heap[w4.heap.size]? = some (.cells #[.int .i64 z.id, .int .i64 z.tenant, .int .i64 z.sectors, .slice Ar nr cr, .slice Ae z.ext ce, .slice At z.tree ct, .slice As z.sums cs] 77 (0, 0)) := by rw [hw5]; exact heap_alloc_new w4 _
            have hl5 : w4.heap.size < w5.heap.size := (Array.getElem?_eq_some_iff.1 hh5).1
            have HD5 := Lib.hid (HD4.out.trans (hb5.mono HD4.out.size))
            have HO5 := Lib.hid (HO4.out.all hb5)
            have HR5 := Lib.hid (Enc.space.keep HR4.out (.all hb5 _))
            have HLA := Lib.hid (cat_listed (HS.out.all HD5.out))
            clear hb5 HO4 HR4
            go_wp2_with fail
            simp only [← hw5]
            refine HLA.out.mono ?_
            rintro e w6 ⟨rfl, hd6⟩
            clear hw5 HLA
            have HD6 := Lib.hid (HD5.out.trans (hd6.mono HD5.out.size))
            have HLB := Lib.hid (law_listed (HS.out.all HD6.out))
            go_wp2_with fail
            refine HLB.out.mono ?_
            rintro e w7 ⟨rfl, hd7⟩
            have HD7 := Lib.hid (HD6.out.trans (hd7.mono HD6.out.size))
            have HE7 := Lib.hid (hd6.trans (hd7.mono hd6.size))
            have HOF := Lib.hid (cat_of (t := t) (HS.out.all HD7.out) (by omega))
            clear HLB hd6 hd7 HD5 HD6
            go_wp2_with fail
            refine HOF.out.mono ?_
            rintro e w8 ⟨v2, F2, rfl, ho2, hd8⟩
            have HD8 := Lib.hid (HD7.out.trans (hd8.mono HD7.out.size))
            have HE8 := Lib.hid (HE7.out.trans (hd8.mono HE7.out.size))
            obtain ⟨A2, c2, rfl, hs2'⟩ := ho2.sl (F' := fun _ => True) (fun _ _ => trivial) (fun _ _ => trivial)
            obtain ⟨A3, c3, hu8, hs3'⟩ := (HO5.out.all HE8.out).sl (F' := fun _ => True) (fun _ _ => trivial) (fun _ _ => trivial)
            subst hu8
            have HLS := Lib.hid (list_spaces hs2' hs3')
            clear HOF HE7 HD7 hd8 ho2 HO5 hs2' hs3'
            go_wp2_with fail
            simp only [decide_true] at HLS
            refine HLS.out.mono ?_
            rintro e w9 ⟨rfl, hd9⟩
            have HD9 := Lib.hid (HD8.out.trans (hd9.mono HD8.out.size))
            have HE9 := Lib.hid (HE8.out.trans (hd9.mono HE8.out.size))
            have HR9 := Lib.hid (Enc.space.keep HR5.out (.all HE9.out _))
            have hh9 := (HE9.out.block _ hl5).trans hh5
            have hl9 : w4.heap.size < w9.heap.size := (Array.getElem?_eq_some_iff.1 hh9).1
            have z0 : w9.cell? ⟨w4.heap.size, 0, none⟩ = some (.int .i64 z.id) := by simp [World.cell?, hh9]
            have z1 : w9.cell? ⟨w4.heap.size, 1, none⟩ = some (.int .i64 z.tenant) := by simp [World.cell?, hh9]
            have z2 : w9.cell? ⟨w4.heap.size, 2, none⟩ = some (.int .i64 z.sectors) := by simp [World.cell?, hh9]
            have z3 : w9.cell? ⟨w4.heap.size, 3, none⟩ = some (.slice Ar nr cr) := by simp [World.cell?, hh9]
            have z4 : w9.cell? ⟨w4.heap.size, 4, none⟩ = some (.slice Ae z.ext ce) := by simp [World.cell?, hh9]
            have z5 : w9.cell? ⟨w4.heap.size, 5, none⟩ = some (.slice At z.tree ct) := by simp [World.cell?, hh9]
            have z6 : w9.cell? ⟨w4.heap.size, 6, none⟩ = some (.slice As z.sums cs) := by simp [World.cell?, hh9]
            clear HLS hd9 HD8 HE8 HR5 hh5 hl5 hh9
            obtain ⟨ad, Br, mr, dr, Be, de, Bt, dt, Bs, ds, rfl, a0, a1, a2, a3, a4, a5, a6, ra⟩ := (HS.out.all HD9.out).space k1 hk1
            have htn := HTN.out
            clear ra
            go_wp2_with fail
            refine (same_space HR9.out (space0_rel w9 (fun _ => False))).mono ?_
            rintro e w10 ⟨rfl, hd10⟩
            have hzd : decide (z = space0) = true := by simp [HZ.out]
            rw [hzd]
            go_wp2
            go_ret
            exact ⟨rfl, HD9.out.trans (hd10.mono HD9.out.size)⟩
end
end Go.Proofs.Ytdgcfgiedclmcaa
