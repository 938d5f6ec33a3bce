/- The walk of the law BoundTells: one way (tells_no). -/
import Derived.Test.YtdpbacmophaheaaMD
namespace Go.Proofs.Ytdpbacmophaheaa
open Go.RowKit

section
variable {w : World} {F G : Nat → Prop} {A B : Option Addr} {n c m d : Nat}
set_option maxRecDepth 100000 in
set_option maxHeartbeats 4000000 in
theorem tells_no {l : List Int} {x0 x1 x2 x3 k : Int} (h : Sl Enc.i64 w F A n c l) (hn : n ≤ 100) (hg : geomB x0 x1 x2 x3 = false) :
    Calls Try.prog 12 #[.agg #[.int .i64 x0, .int .i64 x1, .int .i64 x2, .int .i64 x3], .int .i64 k, .slice A n c] w fun e w' => e = .returned (.bool true) ∧ Below w.heap.size w w' := by
  obtain ⟨ok0, hok0⟩ : ∃ b, decide ((n : Int) ≤ 64) = b := ⟨_, rfl⟩
  have HOK0 := Lib.hid hok0
  clear hok0
  have hd100 : decide ((100 : Int) < (n : Int)) = false := by simp; omega
  have HC := Lib.hid fun W => bound_change W x0 x1 x2 x3 k
  have HF := Lib.hid fun W => bound_format W x0 x1 x2 x3
  have HM := Lib.hid fun W => bound_mount W x0 x1 x2 x3
  have HG := Lib.hid hg
  have e1 : changeN x0 x1 x2 x3 k = 0 := by simp [changeN, hg]
  have e2 : formatN x0 x1 x2 x3 = 0 := by simp [formatN, hg]
  have e3 : mountN x0 x1 x2 x3 = 0 := by simp [mountN, hg]
  rw [e1] at HC
  rw [e2] at HF
  rw [e3] at HM
  clear hg e1 e2 e3
  go_enter Try.func12, Try.ntmps12
  go_wp2_with fail
  obtain ⟨w0, hw0⟩ : ∃ w0, w0 = w.alloc (.cells #[.int .i64 x0, .int .i64 x1, .int .i64 x2, .int .i64 x3] 48) := ⟨_, rfl⟩
  rw [← hw0]
  have hb0 : Below w.heap.size w w0 := by rw [hw0]; exact (Below.refl _ _).alloc (Nat.le_refl _) _
  have hbw := hb0
  have c0 : w0.cell? ⟨w.heap.size, 0, none⟩ = some (.int .i64 x0) := by rw [hw0]; simp
  have c1 : w0.cell? ⟨w.heap.size, 1, none⟩ = some (.int .i64 x1) := by rw [hw0]; simp
  have c2 : w0.cell? ⟨w.heap.size, 2, none⟩ = some (.int .i64 x2) := by rw [hw0]; simp
  have c3 : w0.cell? ⟨w.heap.size, 3, none⟩ = some (.int .i64 x3) := by rw [hw0]; simp
  replace h := h.all hb0
  clear hw0 hb0
  refine (awake41 _).mono ?_
  rintro e w1 ⟨rfl, hb1⟩
  replace c0 := bc hb1 c0
  replace c1 := bc hb1 c1
  replace c2 := bc hb1 c2
  replace c3 := bc hb1 c3
  replace h := h.all hb1
  replace hbw := below_then hbw hbw.size hb1
  go_wp2_with fail
  refine (ref_right _ _ _ _ _ HG.out).mono ?_
  rintro e w2 ⟨rfl, hb2⟩
  replace c0 := bc hb2 c0
  replace c1 := bc hb2 c1
  replace c2 := bc hb2 c2
  replace c3 := bc hb2 c3
  replace h := h.all hb2
  replace hbw := below_then hbw hbw.size hb2
  go_wp2_with fail
  refine (HC.out _).mono ?_
  rintro e w4 ⟨rfl, hb4⟩
  replace c0 := bc hb4 c0
  replace c1 := bc hb4 c1
  replace c2 := bc hb4 c2
  replace c3 := bc hb4 c3
  replace h := h.all hb4
  replace hbw := below_then hbw hbw.size hb4
  go_wp2_with fail
  refine (HF.out _).mono ?_
  rintro e w5 ⟨rfl, hb5⟩
  replace c0 := bc hb5 c0
  replace c1 := bc hb5 c1
  replace c2 := bc hb5 c2
  replace c3 := bc hb5 c3
  replace h := h.all hb5
  replace hbw := below_then hbw hbw.size hb5
  go_wp2_with fail
  refine (HM.out _).mono ?_
  rintro e w6 ⟨rfl, hb6⟩
  replace c0 := bc hb6 c0
  replace c1 := bc hb6 c1
  replace c2 := bc hb6 c2
  replace c3 := bc hb6 c3
  replace h := h.all hb6
  replace hbw := below_then hbw hbw.size hb6
  try clear h8'
  try clear hk2
  try clear hk1
  try clear hk6
  try clear hk7
  try clear hk3
  clear c0 c1 c2 c3 HC HF HM HG
  have HLN := Lib.hid h.len
  have hok0 := HOK0.out
  have HB6 := Lib.hid hbw
  have hs6 := hbw.size
  clear hbw
  go_wp2
  clear hok0
  obtain ⟨H0, hH0⟩ : ∃ H0 : Int, 153 + 54 * (n : Int) + 72 = H0 := ⟨_, rfl⟩
  rw [hH0]
  have hH1 : 0 ≤ H0 ∧ H0 ≤ 6000 := by omega
  have HH0 := Lib.hid hH0
  clear hH0
  have HBY : Hid (bytesN 3 l 9 = if ok0 && l.all goodX then H0 + costTo l n else 0) := Lib.hid (by rw [← HOK0.out, ← HH0.out]; exact bytes_law HLN.out)
  go_loopw [11, 12, 93] (fun s o i wr => ∃ k : Nat, k ≤ n ∧ i = .int .i64 k ∧ s = .int .i64 (H0 + costTo l k) ∧ o = .bool ok0 ∧ (l.take k).all goodX = true ∧ Below w6.heap.size w6 wr) (fun _ _ i _ => n - (intOf i).toNat)
  case atStart => exact ⟨0, by omega, by simp, by simp [costTo], rfl, by simp, .refl _ _⟩
  case round =>
    obtain ⟨k, hk, rfl, rfl, rfl, ht, hd⟩ := hrel
    have hsz := hd.size
    have hcb := costTo_bd ht
    replace h := h.all hd
    have HT := Lib.hid ht
    clear ht
    by_cases hlt : k < n
    · have hka := h.lt hlt
      obtain ⟨ad, rfl, -, hca⟩ := h.int k hka
      have HS := Lib.hid (costTo_succ hka)
      obtain ⟨x, hx⟩ : ∃ x, l[k] = x := ⟨_, rfl⟩
      rw [hx] at hca HS
      have HX := Lib.hid hx
      have HL := Lib.hid h
      have HD := Lib.hid hd
      clear h hx hd
      by_cases hgx : 1 ≤ x ∧ x ≤ 4096
      · obtain ⟨hx1, hx2⟩ := hgx
        have HGX : Hid (goodX l[k] = true) := Lib.hid (by rw [HX.out]; simp [goodX, hx1, hx2])
        obtain ⟨y, rfl⟩ : ∃ y : Nat, x = (y : Int) := ⟨x.toNat, by omega⟩
        have HCT := Lib.hid fun W => ref_counts W y (by omega) (by omega)
        obtain ⟨C, hC, hCl, hCs, hCb⟩ := counts_law (n := y) (by omega) (by omega)
        rw [hC] at HCT
        have HCO : Hid (costX (y : Int) = 40 * C.tail.sum + 32 * y) := Lib.hid (by rw [hCs]; simp [costX])
        have HCB := Lib.hid fun m => sum_take_bd (l := C.tail) (B := 4096) (by omega) hCb m
        have hCl6 : C.length ≤ 7 ∧ 2 ≤ C.length := hCl
        clear hC hCs hCb hCl
        generalize costTo l k = Q at *
        go_wp2_with fail
        refine (HCT.out _).mono ?_
        rintro r w7 ⟨v7, rfl, ho7, hb7⟩
        have hs7 := hb7.size
        obtain ⟨A7, c7, rfl, hc7, ⟨hcm7, -⟩, hg7⟩ := ho7.form
        obtain ⟨A7', c7', e7, hsl7⟩ := ho7.sl (F' := fun _ => True) (fun _ h => h.elim) (fun _ _ => trivial)
        cases e7
        obtain ⟨q, hq⟩ : ∃ q, C.length = q + 1 := ⟨C.length - 1, by omega⟩
        obtain ⟨g7, rfl, -, -⟩ := hg7 (by omega)
        have hdr := hsl7.drop (k := 1) (by omega)
        rw [if_neg (by omega), hq, Nat.add_sub_cancel, List.drop_one] at hdr
        rw [hq] at hc7 hCl6 ⊢
        have hc72 : 1 < c7 := by omega
        have HDR := Lib.hid hdr
        have HB7 := Lib.hid (HD.out.trans (hb7.mono hsz))
        have HL7 := Lib.hid (HL.out.all hb7)
        have HTL : Hid (C.tail.length = q) := Lib.hid (by rw [List.length_tail, hq, Nat.add_sub_cancel])
        have hw67 : w6.heap.size ≤ w7.heap.size := by omega
        clear hsl7 hdr ho7 hq hg7 hb7 HL HD HCT
        go_wp2
        go_loopw [11, 107] (fun s i wr => ∃ m : Nat, m ≤ q ∧ i = .int .i64 m ∧ s = .int .i64 (H0 + Q + 40 * (C.tail.take m).sum) ∧ Below w7.heap.size w7 wr) (fun _ i _ => q - (intOf i).toNat)
        case atStart => exact ⟨0, by omega, by simp, by simp, .refl _ _⟩
        case round =>
          obtain ⟨m, hm, rfl, rfl, hd8⟩ := hrel
          have hs8 := hd8.size
          have hcm := HCB.out m
          by_cases hmq : m < q
          · have hmC : m < C.tail.length := by rw [HTL.out]; exact hmq
            obtain ⟨ad8, e8, -, hc8⟩ := (HDR.out.all hd8).int m hmC
            cases e8
            replace hc8 := (congrArg wr.cell? (add_tail g7 m)).symm.trans hc8
            have HS8 := Lib.hid (sum_take_succ hmC)
            have hcm1 := HCB.out (m + 1)
            obtain ⟨z, hz⟩ : ∃ z, C.tail[m] = z := ⟨_, rfl⟩
            rw [hz] at hc8 HS8
            rw [HS8.out] at hcm1
            generalize (C.tail.take m).sum = S at *
            clear hz
            have hzb : -30000 ≤ z ∧ z ≤ 30000 := by omega
            go_wp2
            go_roundw
            case rel => exact ⟨m + 1, by omega, by go_num, by rw [HS8.out]; go_num, hd8⟩
            case measure => simp [intOf] <;> omega
          · have hmq' : m = q := by omega
            have HE : Hid ((C.tail.take m).sum = C.tail.sum) := Lib.hid (by rw [List.take_of_length_le (by rw [HTL.out]; omega)])
            rw [HE.out] at hcm ⊢
            generalize C.tail.sum = S at *
            have HB8 := Lib.hid (HB7.out.trans (hd8.mono hw67))
            clear hmq' hd8
            go_wp2
            go_roundw
            case rel => exact ⟨k + 1, by omega, by go_num, by rw [HS.out, HCO.out]; go_num, rfl, all_take_succ hka HT.out HGX.out, HB8.out⟩
            case measure => simp [intOf] <;> omega
      · have HA : Hid (l.all goodX = false) := Lib.hid (all_false hka (by rw [HX.out]; simp [goodX]; omega))
        have HB3 : Hid (∀ (W : World) (A' : Option Addr), Sl Enc.i64 W F A' n c l → Calls Try.prog 65 #[.int .i64 3, .slice A' n c, .int .i64 9] W fun r w' => r = .returned (.int .i64 0) ∧ Below W.heap.size W w') := Lib.hid fun W A' hW => by have := bound_bytes (t := 3) (e := 9) hW; rwa [show bytesN 3 l 9 = 0 by rw [HBY.out, HA.out, Bool.and_false]; rfl] at this
        have HB9 := Lib.hid (HB6.out.trans (HD.out.mono hs6))
        have h := HL.out
        have hxx : x < 1 ∨ 4096 < x := by omega
        clear hgx hcb HBY HL HD HA
        generalize costTo l k = Q at *
        rcases hxx with hxx | hxx
        all_goals
          go_wp2_with fail
          obtain ⟨w9, hw9⟩ : ∃ w9, w9 = wr := ⟨_, rfl⟩
          have hs9 := HB9.out.size
          rw [← hw9] at hs9 HB9 h ⊢
          clear hw9
          go_loopw [17, 18, 125] (fun v s i wr => ∃ k : Nat, k ≤ n ∧ i = .int .i64 k ∧ s = .int .i64 (drawsTo l k) ∧ Own Enc.opk 88 wr w9.heap.size (fun _ => False) v (l.take k) ∧ Below w9.heap.size w9 wr) (fun _ _ i _ => n - (intOf i).toNat)
          case atStart => exact ⟨0, by omega, by simp, by simp [drawsTo], Own.nil _ _ _ _, .refl _ _⟩
          case round =>
            obtain ⟨p, hp, rfl, rfl, ho, hd⟩ := hrel
            have hsp := hd.size
            have hdb := drawsTo_bd l p
            replace h := h.all hd
            by_cases hlp : p < n
            · have hpa := h.lt hlp
              obtain ⟨adp, hadp, -, hcp⟩ := h.int p hpa
              have HS := Lib.hid (drawsTo_succ hpa)
              have HTS := Lib.hid (List.take_succ_eq_append_getElem hpa)
              obtain ⟨u, hu⟩ : ∃ u, l[p] = u := ⟨_, rfl⟩
              rw [hu] at hcp HS HTS
              have HLEN : Hid ((l.take p).length = p) := Lib.hid (by rw [List.length_take, HLN.out]; omega)
              have HD := Lib.hid hd
              have HO := Lib.hid ho
              cases hadp
              clear ho hd h hu
              generalize drawsTo l p = s at *
              go_wp2_with (at_builtin; refine wpl_app (e := Enc.opk) (E := 88) (base := w9.heap.size) rfl _ _ 110 rfl Try.underlying110 Try.infoOp rfl rfl rfl (HO.out.alloc _) (Sr.box (e := Enc.opk) (G := fun _ => False) (y := u) rfl _) (fun _ _ h => h) (le_alloc hsp) (by omega) (by rw [HLEN.out]; omega) ?_; intro v1 w10 ho1 hg1 _ _; have HB10 := Lib.hid ((HD.out.alloc hsp _).grown hg1 (le_alloc hsp) (fun g hg => (HO.out.blk hg).1)); have HO1 := Lib.hid (ho1.weaken (F' := fun _ => False) (fun b hb => by rcases hb with hb | hb; exact hb; exact hb.1) (fun _ _ h => h) (fun _ h => h.elim)); clear ho1 hg1)
              all_goals
                go_roundw
                case rel => exact ⟨p + 1, by omega, by go_num, by first | (rw [HS.out, if_pos (by simp [drawsB_eq, *])]; go_num) | (rw [HS.out, if_neg (by simp [drawsB_eq, *]), Nat.add_zero]), by rw [HTS.out]; exact HO1.out, HB10.out⟩
                case measure => simp [intOf] <;> omega
            · have hpn : p = n := by omega
              have HPN : Hid (l.take p = l) := Lib.hid (List.take_of_length_le (by rw [HLN.out]; omega))
              rw [HPN.out] at ho
              obtain ⟨Ao, co, ev, hso⟩ := ho.sl (F' := fun _ => True) (fun _ h => h.elim) (fun _ _ => trivial)
              rw [HLN.out] at ev hso
              subst ev
              subst hpn
              have HSO := Lib.hid hso
              have HB11 := Lib.hid (HB9.out.trans (hd.mono hs9))
              have HL11 := Lib.hid h
              clear ho hso hd h
              go_wp2_with fail
              refine (HB3.out _ _ HL11.out).mono ?_
              rintro r w12 ⟨rfl, hb12⟩
              go_wp2_with fail
              refine (bytesZ (by decide)).mono ?_
              rintro r w13 ⟨rfl, hb13⟩
              replace hb13 := below_then hb12 hb12.size hb13
              go_wp2_with fail
              refine (bytesZ (by decide)).mono ?_
              rintro r w14 ⟨rfl, hb14⟩
              replace hb14 := below_then hb13 hb13.size hb14
              go_wp2_with fail
              refine (bytesZ (by simp [guardN])).mono ?_
              rintro r w15 ⟨rfl, hb15⟩
              replace hb15 := below_then hb14 hb14.size hb15
              go_wp2_with fail
              refine (bound_draws (HSO.out.all hb15) (by omega)).mono ?_
              rintro r w16 ⟨rfl, hb16⟩
              replace hb16 := below_then hb15 hb15.size hb16
              go_wp2
              go_ret
              exact ⟨ret_bool (by simp), HB11.out.trans (hb16.mono HB11.out.size)⟩
    · have hkn : k = n := by omega
      have HA : Hid (l.all goodX = true) := Lib.hid (all_done (by rw [HLN.out]; omega) HT.out)
      have HB9 := Lib.hid (HB6.out.trans (hd.mono hs6))
      have HKN := Lib.hid hkn
      obtain ⟨A', hA'⟩ : ∃ A', A = A' := ⟨_, rfl⟩
      clear hd hcb
      cases ok0
      · have HB3 : Hid (∀ (W : World) (A' : Option Addr), Sl Enc.i64 W F A' n c l → Calls Try.prog 65 #[.int .i64 3, .slice A' n c, .int .i64 9] W fun r w' => r = .returned (.int .i64 0) ∧ Below W.heap.size W w') := Lib.hid fun W A' hW => by have := bound_bytes (t := 3) (e := 9) hW; rwa [show bytesN 3 l 9 = 0 by rw [HBY.out, Bool.false_and]; rfl] at this
        clear HBY hkn hA'
        generalize costTo l k = Q at *
        go_wp2_with fail
        obtain ⟨w9, hw9⟩ : ∃ w9, w9 = wr := ⟨_, rfl⟩
        have hs9 := HB9.out.size
        rw [← hw9] at hs9 HB9 h ⊢
        clear hw9
        go_loopw [17, 18, 125] (fun v s i wr => ∃ k : Nat, k ≤ n ∧ i = .int .i64 k ∧ s = .int .i64 (drawsTo l k) ∧ Own Enc.opk 88 wr w9.heap.size (fun _ => False) v (l.take k) ∧ Below w9.heap.size w9 wr) (fun _ _ i _ => n - (intOf i).toNat)
        case atStart => exact ⟨0, by omega, by simp, by simp [drawsTo], Own.nil _ _ _ _, .refl _ _⟩
        case round =>
          obtain ⟨p, hp, rfl, rfl, ho, hd⟩ := hrel
          have hsp := hd.size
          have hdb := drawsTo_bd l p
          replace h := h.all hd
          by_cases hlp : p < n
          · have hpa := h.lt hlp
            obtain ⟨adp, hadp, -, hcp⟩ := h.int p hpa
            have HS := Lib.hid (drawsTo_succ hpa)
            have HTS := Lib.hid (List.take_succ_eq_append_getElem hpa)
            obtain ⟨u, hu⟩ : ∃ u, l[p] = u := ⟨_, rfl⟩
            rw [hu] at hcp HS HTS
            have HLEN : Hid ((l.take p).length = p) := Lib.hid (by rw [List.length_take, HLN.out]; omega)
            have HD := Lib.hid hd
            have HO := Lib.hid ho
            cases hadp
            clear ho hd h hu
            generalize drawsTo l p = s at *
            go_wp2_with (at_builtin; refine wpl_app (e := Enc.opk) (E := 88) (base := w9.heap.size) rfl _ _ 110 rfl Try.underlying110 Try.infoOp rfl rfl rfl (HO.out.alloc _) (Sr.box (e := Enc.opk) (G := fun _ => False) (y := u) rfl _) (fun _ _ h => h) (le_alloc hsp) (by omega) (by rw [HLEN.out]; omega) ?_; intro v1 w10 ho1 hg1 _ _; have HB10 := Lib.hid ((HD.out.alloc hsp _).grown hg1 (le_alloc hsp) (fun g hg => (HO.out.blk hg).1)); have HO1 := Lib.hid (ho1.weaken (F' := fun _ => False) (fun b hb => by rcases hb with hb | hb; exact hb; exact hb.1) (fun _ _ h => h) (fun _ h => h.elim)); clear ho1 hg1)
            all_goals
              go_roundw
              case rel => exact ⟨p + 1, by omega, by go_num, by first | (rw [HS.out, if_pos (by simp [drawsB_eq, *])]; go_num) | (rw [HS.out, if_neg (by simp [drawsB_eq, *]), Nat.add_zero]), by rw [HTS.out]; exact HO1.out, HB10.out⟩
              case measure => simp [intOf] <;> omega
          · have hpn : p = n := by omega
            have HPN : Hid (l.take p = l) := Lib.hid (List.take_of_length_le (by rw [HLN.out]; omega))
            rw [HPN.out] at ho
            obtain ⟨Ao, co, ev, hso⟩ := ho.sl (F' := fun _ => True) (fun _ h => h.elim) (fun _ _ => trivial)
            rw [HLN.out] at ev hso
            subst ev
            subst hpn
            have HSO := Lib.hid hso
            have HB11 := Lib.hid (HB9.out.trans (hd.mono hs9))
            have HL11 := Lib.hid h
            clear ho hso hd h
            go_wp2_with fail
            refine (HB3.out _ _ HL11.out).mono ?_
            rintro r w12 ⟨rfl, hb12⟩
            go_wp2_with fail
            refine (bytesZ (by decide)).mono ?_
            rintro r w13 ⟨rfl, hb13⟩
            replace hb13 := below_then hb12 hb12.size hb13
            go_wp2_with fail
            refine (bytesZ (by decide)).mono ?_
            rintro r w14 ⟨rfl, hb14⟩
            replace hb14 := below_then hb13 hb13.size hb14
            go_wp2_with fail
            refine (bytesZ (by simp [guardN])).mono ?_
            rintro r w15 ⟨rfl, hb15⟩
            replace hb15 := below_then hb14 hb14.size hb15
            go_wp2_with fail
            refine (bound_draws (HSO.out.all hb15) (by omega)).mono ?_
            rintro r w16 ⟨rfl, hb16⟩
            replace hb16 := below_then hb15 hb15.size hb16
            go_wp2
            go_ret
            exact ⟨ret_bool (by simp), HB11.out.trans (hb16.mono HB11.out.size)⟩
      · have HB3 : Hid (∀ (W : World) (A' : Option Addr), Sl Enc.i64 W F A' n c l → Calls Try.prog 65 #[.int .i64 3, .slice A' n c, .int .i64 9] W fun r w' => r = .returned (.int .i64 (H0 + costTo l k)) ∧ Below W.heap.size W w') := Lib.hid fun W A' hW => by have := bound_bytes (t := 3) (e := 9) hW; rwa [show bytesN 3 l 9 = H0 + costTo l k by rw [HBY.out, HA.out, HKN.out]; rfl] at this
        clear HBY hkn hA'
        generalize costTo l k = Q at *
        go_wp2_with fail
        obtain ⟨w9, hw9⟩ : ∃ w9, w9 = wr := ⟨_, rfl⟩
        have hs9 := HB9.out.size
        rw [← hw9] at hs9 HB9 h ⊢
        clear hw9
        go_loopw [17, 18, 125] (fun v s i wr => ∃ k : Nat, k ≤ n ∧ i = .int .i64 k ∧ s = .int .i64 (drawsTo l k) ∧ Own Enc.opk 88 wr w9.heap.size (fun _ => False) v (l.take k) ∧ Below w9.heap.size w9 wr) (fun _ _ i _ => n - (intOf i).toNat)
        case atStart => exact ⟨0, by omega, by simp, by simp [drawsTo], Own.nil _ _ _ _, .refl _ _⟩
        case round =>
          obtain ⟨p, hp, rfl, rfl, ho, hd⟩ := hrel
          have hsp := hd.size
          have hdb := drawsTo_bd l p
          replace h := h.all hd
          by_cases hlp : p < n
          · have hpa := h.lt hlp
            obtain ⟨adp, hadp, -, hcp⟩ := h.int p hpa
            have HS := Lib.hid (drawsTo_succ hpa)
            have HTS := Lib.hid (List.take_succ_eq_append_getElem hpa)
            obtain ⟨u, hu⟩ : ∃ u, l[p] = u := ⟨_, rfl⟩
            rw [hu] at hcp HS HTS
            have HLEN : Hid ((l.take p).length = p) := Lib.hid (by rw [List.length_take, HLN.out]; omega)
            have HD := Lib.hid hd
            have HO := Lib.hid ho
            cases hadp
            clear ho hd h hu
            generalize drawsTo l p = s at *
            go_wp2_with (at_builtin; refine wpl_app (e := Enc.opk) (E := 88) (base := w9.heap.size) rfl _ _ 110 rfl Try.underlying110 Try.infoOp rfl rfl rfl (HO.out.alloc _) (Sr.box (e := Enc.opk) (G := fun _ => False) (y := u) rfl _) (fun _ _ h => h) (le_alloc hsp) (by omega) (by rw [HLEN.out]; omega) ?_; intro v1 w10 ho1 hg1 _ _; have HB10 := Lib.hid ((HD.out.alloc hsp _).grown hg1 (le_alloc hsp) (fun g hg => (HO.out.blk hg).1)); have HO1 := Lib.hid (ho1.weaken (F' := fun _ => False) (fun b hb => by rcases hb with hb | hb; exact hb; exact hb.1) (fun _ _ h => h) (fun _ h => h.elim)); clear ho1 hg1)
            all_goals
              go_roundw
              case rel => exact ⟨p + 1, by omega, by go_num, by first | (rw [HS.out, if_pos (by simp [drawsB_eq, *])]; go_num) | (rw [HS.out, if_neg (by simp [drawsB_eq, *]), Nat.add_zero]), by rw [HTS.out]; exact HO1.out, HB10.out⟩
              case measure => simp [intOf] <;> omega
          · have hpn : p = n := by omega
            have HPN : Hid (l.take p = l) := Lib.hid (List.take_of_length_le (by rw [HLN.out]; omega))
            rw [HPN.out] at ho
            obtain ⟨Ao, co, ev, hso⟩ := ho.sl (F' := fun _ => True) (fun _ h => h.elim) (fun _ _ => trivial)
            rw [HLN.out] at ev hso
            subst ev
            subst hpn
            have HSO := Lib.hid hso
            have HB11 := Lib.hid (HB9.out.trans (hd.mono hs9))
            have HL11 := Lib.hid h
            clear ho hso hd h
            go_wp2_with fail
            refine (HB3.out _ _ HL11.out).mono ?_
            rintro r w12 ⟨rfl, hb12⟩
            go_wp2_with fail
            refine (bytesZ (by decide)).mono ?_
            rintro r w13 ⟨rfl, hb13⟩
            replace hb13 := below_then hb12 hb12.size hb13
            go_wp2_with fail
            refine (bytesZ (by decide)).mono ?_
            rintro r w14 ⟨rfl, hb14⟩
            replace hb14 := below_then hb13 hb13.size hb14
            go_wp2_with fail
            refine (bytesZ (by simp [guardN])).mono ?_
            rintro r w15 ⟨rfl, hb15⟩
            replace hb15 := below_then hb14 hb14.size hb15
            go_wp2_with fail
            refine (bound_draws (HSO.out.all hb15) (by omega)).mono ?_
            rintro r w16 ⟨rfl, hb16⟩
            replace hb16 := below_then hb15 hb15.size hb16
            go_wp2
            go_ret
            exact ⟨ret_bool (by simp), HB11.out.trans (hb16.mono HB11.out.size)⟩
end
end Go.Proofs.Ytdpbacmophaheaa
