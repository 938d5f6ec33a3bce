/- The walk of the law CrashDisk. -/
import Derived.Test.YtdgcfgiedclmcaaG8
namespace Go.Proofs.Ytdgcfgiedclmcaa
open Go.RowKit

theorem Below.low {B : Nat} {a b c : World} (h : Below B a b) (hB : B ≤ b.heap.size) (k : Below b.heap.size b c) : Below B a c := h.trans (k.mono hB)
section
variable {w : World} {A B C : Option Addr} {n c m d l e : Nat}
set_option maxRecDepth 100000 in
set_option maxHeartbeats 4000000 in
theorem disklaw_main {fs ws : List Entry} {keep : List Bool} (h : Sl Enc.entry w (fun b => b < w.heap.size) A n c fs) (g : Sl Enc.entry w (fun b => b < w.heap.size) B m d ws) (hk : Sl Enc.bool w (fun b => b < w.heap.size) C l e keep) (hn : n ≤ 14) (hm : m ≤ 14) (hl : l ≤ 40) :
    Calls Try.prog 6 #[.slice A n c, .slice B m d, .slice C l e] w fun e w' => e = .returned (.bool true) ∧ Below w.heap.size w w' := by
  have hln := h.len
  have hlm := g.len
  have hdn : decide (14 < (n : Int)) = false := by simp; omega
  have hdm : decide (14 < (m : Int)) = false := by simp; omega
  have hdl : decide (40 < (l : Int)) = false := by simp; omega
  have HA := Lib.hid (awake34 w)
  have HN := Lib.hid fun (W : World) (hW : w.heap.size ≤ W.heap.size) => disk_new (w := W) (n := 6) (size := 32) (n₀ := w.heap.size) hW (by omega) (by omega) (by omega) (by omega) (by omega)
  have HFS := Lib.hid h; have HWS := Lib.hid g; have HKS := Lib.hid hk; have HLN := Lib.hid hln; have HLM := Lib.hid hlm
  clear h g hk hln hlm
  go_enter Try.func6, Try.ntmps6
  go_wp2_with fail
  refine HA.out.mono ?_
  rintro e w1 ⟨rfl, hb1⟩
  have HN1 := Lib.hid (HN.out w1 hb1.size)
  go_wp2_with fail
  refine HN1.out.mono ?_
  rintro e w2 ⟨p, q, rfl, hdk, hp, hq, hb2⟩
  have hs1 := hb1.size
  have hs2 := hb2.size
  have hb02 : Below w.heap.size w w2 := below_then hb1 hs1 hb2
  have hp2 := hdk.plt
  have hq2 := hdk.glt
  have hpn := hdk.np
  have hqn := hdk.ng
  have HD2 := Lib.hid hdk
  clear hdk HA HN HN1 hb1 hb2
  go_wp2
  go_loopw [45] (fun i wr => ∃ k : Nat, k ≤ n ∧ i = .int .i64 k ∧ (∃ E, DiskAt wr w.heap.size p q E ∧ Six E ∧ E.waits.length ≤ k) ∧ Fr (DC w.heap.size p q) w2 wr) (fun i _ => n - (intOf i).toNat)
  case atStart => exact ⟨0, by omega, by simp, ⟨_, HD2.out, ⟨rfl, rfl, rfl, rfl⟩, by simp [newD]⟩, .refl _ _⟩
  case round =>
    obtain ⟨k, hk, rfl, ⟨E, hE, hsix, hwl⟩, hfr⟩ := hrel
    have hbr : Below w.heap.size w wr := hb02.trans (hfr.old hpn hqn (by omega))
    have hsr := hfr.size
    by_cases hlt : k < n
    · have hka : k < fs.length := by have := HLN.out; omega
      obtain ⟨ad, A', n', c', rfl, -, hc1, hc2, hsl⟩ := (HFS.out.all hbr).entry k hka
      obtain ⟨x, hx⟩ : ∃ x, fs[k] = x := ⟨_, rfl⟩
      rw [hx] at hc1 hsl
      obtain ⟨x1, x2⟩ := x
      dsimp only at hc1 hsl
      have HW := Lib.hid (disk_write (s := x1) (hE.alloc (.cells #[.int .i64 x1, .slice A' n' c'] 43)) ((hsl.keep (.alloc wr _ _)).keep (F' := FT w.heap.size (wr.alloc (.cells #[.int .i64 x1, .slice A' n' c'] 43))) (.weaken _ fun b hb _ => .inl hb)) (by rw [hsix.size]; omega) (by omega))
      have HSX := Lib.hid (hsix.write x1 x2)
      have HFR := Lib.hid hfr
      have hwl' : Hid (E.waits.length ≤ k) := Lib.hid hwl
      clear hE hsix hwl hfr hsl hx
      generalize writeE E x1 x2 = r at *
      go_wp2_with fail
      refine HW.out.mono ?_
      rintro e w3 ⟨rfl, hE3, hf3⟩
      have HE3 := Lib.hid hE3; have HF3 := Lib.hid hf3
      clear hE3 hf3
      go_wp2
      go_roundw
      case rel => exact ⟨k + 1, by omega, by go_num, ⟨_, HE3.out, HSX.out.1, by have h1 := HSX.out.2.2.2; have h2 := hwl'.out; omega⟩, (HFR.out.alloc _).trans HF3.out⟩
      case measure => simp [intOf]; omega
    · have HFL := Lib.hid (disk_flush hE)
      obtain ⟨hfe, hs4', hw4'⟩ := hsix.flush
      rw [hfe] at HFL
      obtain ⟨E1, hE1⟩ : ∃ E1, flushD E = E1 := ⟨_, rfl⟩
      rw [hE1] at HFL hs4' hw4'
      have HFR := Lib.hid hfr; have HS1 := Lib.hid hs4'; have HW1 := Lib.hid hw4'
      clear hE hsix hwl hfr hs4' hw4' hfe hE1
      go_wp2_with fail
      refine HFL.out.mono ?_
      rintro e w4 ⟨rfl, hE4, hf4⟩
      have hb4 : Below w.heap.size w w4 := hbr.trans (hf4.old hpn hqn (by omega))
      have hs4 := hf4.size
      have HE4 := Lib.hid hE4
      obtain ⟨K, hK⟩ : ∃ K, E1.kept = K := ⟨_, rfl⟩
      have HK := Lib.hid hK
      have hKl : K.length = 6 := by rw [← hK]; exact HS1.out.len
      have HKL := Lib.hid hKl
      clear hE4 hf4 HFL HFR hK hKl
      go_wp2
      go_loopw [11, 58] (fun v i wr => ∃ k : Nat, k ≤ 6 ∧ i = .int .i64 k ∧ Own Enc.bytes 38 wr w4.heap.size (FT w.heap.size wr) v (K.take k) ∧ DiskAt wr w.heap.size p q E1 ∧ Below w4.heap.size w4 wr) (fun _ i _ => 6 - (intOf i).toNat)
      case atStart => exact ⟨0, by omega, by simp, (Own.nil _ _ _ _).retypeN (by decide) (by omega) (by omega) (fun _ h => h.elim), HE4.out, .refl _ _⟩
      case round =>
        obtain ⟨k, hk, rfl, ho, hE, hb5⟩ := hrel
        have hs5 := hb5.size
        by_cases hlt6 : k < 6
        · have hkl : k < K.length := by have := HKL.out; omega
          obtain ⟨hm0, hrb⟩ := HS1.out.read HW1.out hlt6
          have hgd : E1.kept.getD k [] = K[k] := by rw [HK.out]; simp [List.getD, hkl]
          rw [hgd] at hrb
          have HR := Lib.hid (disk_read hE (k : Int))
          rw [hm0, hrb] at HR
          have htk : K.take (k + 1) = K.take k ++ [K[k]] := List.take_succ_eq_append_getElem hkl
          have hlk : (K.take k).length ≤ 6 := by simp; omega
          have HTK := Lib.hid htk; have HO := Lib.hid ho; have HE := Lib.hid hE
          clear hm0 hrb hgd htk ho hE
          obtain ⟨y, hy⟩ : ∃ y, K[k] = y := ⟨_, rfl⟩
          rw [hy] at HR HTK
          clear hy
          go_wp2_with fail
          refine HR.out.mono ?_
          rintro e w6 ⟨v6, rfl, ho6, hb6⟩
          have hs6 := hb6.size
          have hw06 : w.heap.size ≤ w6.heap.size := by omega
          have hw46 : w4.heap.size ≤ w6.heap.size := by omega
          obtain ⟨A6, c6, rfl, hs6l⟩ := ho6.sl (F' := FT w.heap.size w6) (fun _ h => h.elim) (fun j hj => .inr (by obtain ⟨cs, hcs⟩ := ho6.typed hj; exact ⟨cs, _, _, hcs, by decide⟩))
          have HO6 := Lib.hid (HO.out.fall hb6 (by decide) (by omega) (by omega))
          have HS6 := Lib.hid hs6l
          have hb46 : Below w4.heap.size w4 w6 := below_then hb5 hs5 hb6
          have HE6 := Lib.hid (HE.out.all hb6)
          clear ho6 hs6l HR
          go_wp2_with (at_builtin; refine wpl_app (e := Enc.bytes) (E := 38) (base := w4.heap.size) rfl _ _ 22 rfl Try.underlying22 Try.infoBytes rfl rfl rfl (HO6.out.alloc _) (Sr.box (e := Enc.bytes) (G := FT w.heap.size w6) (y := y) ⟨_, _, _, rfl, HS6.out⟩ _) HO6.out.not (le_alloc hw46) (by omega) (by omega) ?_; intro v7 w7 ho7 hg7 _ _)
          have hb7 : Below w4.heap.size w4 w7 := (hb46.alloc hw46 _).grown hg7 (le_alloc hw46) (fun g hg => (HO6.out.blk hg).1)
          have hs7 := hg7.size
          simp only [World.size_alloc] at hs7
          have HE7 := Lib.hid (HE6.out.keep (w' := w7) (by omega) fun b hb hcl => (hg7.block b (by simp only [World.size_alloc]; omega) (fun e => by
            have hjb := HO6.out.blk e.symm
            obtain ⟨cs, hcs⟩ := HO6.out.typed e.symm
            rcases hcl with h | h | h | ⟨cs', t, fr, h, ht⟩
            · omega
            · omega
            · omega
            · rw [hcs] at h
              have h1 := Option.some.inj h
              injection h1 with _ h2
              subst h2
              exact absurd ht (by decide))).trans (Below.heap_alloc _ _ _ hb))
          have HO7 := Lib.hid (ho7.retypeN (n₀ := w.heap.size) (ts := [5, 4]) (by decide) (by omega) (by omega) fun b hb _ => by
            have hb' : FT w.heap.size w6 b := by rcases hb with h | h; exact h; exact h.1
            have hbl := hb'.lt hw06
            exact OfN.keep hb' ((hg7.block b (by simp only [World.size_alloc]; omega) (fun e => HO6.out.not b e.symm hb')).trans (Below.heap_alloc _ _ _ hbl)))
          clear ho7 hg7
          go_wp2
          go_roundw
          case rel => exact ⟨k + 1, by omega, by go_num, by rw [HTK.out]; exact HO7.out, HE7.out, hb7⟩
          case measure => simp [intOf]; omega
        · have hk6 : k = 6 := by omega
          subst hk6
          obtain ⟨w5, rfl⟩ : ∃ w5 : World, w5 = wr := ⟨_, rfl⟩
          rw [List.take_of_length_le (by rw [HKL.out]; omega)] at ho
          obtain ⟨Ai, ci, rfl, hsi⟩ := ho.sl (F' := fun _ => True) (fun _ _ => trivial) (fun _ _ => trivial)
          rw [HKL.out] at ho ⊢
          rw [show (((6 : Nat) : Int)) = 6 from rfl]
          have HO5 := Lib.hid ho; have HE5 := Lib.hid hE
          have hb05 : Below w.heap.size w w5 := below_then hb4 (by omega) hb5
          clear hsi ho hE
          go_wp2
          go_loopw [74] (fun i wr => ∃ k : Nat, k ≤ m ∧ i = .int .i64 k ∧ (∃ E, DiskAt wr w.heap.size p q E ∧ Six E ∧ E.kept = K ∧ E.waits = ws.take k) ∧ Own Enc.bytes 38 wr w4.heap.size (FT w.heap.size wr) (.slice Ai 6 ci) K ∧ (∀ x ∈ ws.take k, 0 ≤ x.1 ∧ x.1 < 6 ∧ x.2.length = 32) ∧ Fr (DC w.heap.size p q) w5 wr) (fun i _ => m - (intOf i).toNat)
          case atStart => exact ⟨0, by omega, by simp, ⟨_, HE5.out, HS1.out, HK.out, by rw [HW1.out]; rfl⟩, HO5.out, by simp, .refl _ _⟩
          case round =>
            obtain ⟨k, hk, rfl, ⟨E, hE, hsix, hek, hew⟩, ho, hall, hfr⟩ := hrel
            have hbr : Below w.heap.size w wr := hb05.trans (hfr.old hpn hqn (by omega))
            have hsr := hfr.size
            by_cases hlt : k < m
            · have hka : k < ws.length := by have := HLM.out; omega
              obtain ⟨ad, A', n', c', rfl, -, hc1, hc2, hsl⟩ := (HWS.out.all hbr).entry k hka
              have htk : ws.take (k + 1) = ws.take k ++ [ws[k]] := List.take_succ_eq_append_getElem hka
              obtain ⟨x, hx⟩ : ∃ x, ws[k] = x := ⟨_, rfl⟩
              rw [hx] at hc1 hsl htk
              obtain ⟨x1, x2⟩ := x
              dsimp only at hc1 hsl
              have hEa := hE.alloc (.cells #[.int .i64 x1, .slice A' n' c'] 43)
              have HW := Lib.hid (disk_write (s := x1) hEa ((hsl.keep (.alloc wr _ _)).keep (F' := FT w.heap.size (wr.alloc (.cells #[.int .i64 x1, .slice A' n' c'] 43))) (.weaken _ fun b hb _ => .inl hb)) (by rw [hsix.size]; omega) (by rw [hew]; simp; omega))
              have hsx := hsix.write x1 x2
              have HFA := Lib.hid (hfr.alloc (.cells #[.int .i64 x1, .slice A' n' c'] 43))
              have HOA := Lib.hid fun (W' : World) (hf : Fr (DC w.heap.size p q) (wr.alloc (.cells #[.int .i64 x1, .slice A' n' c'] 43)) W') => (ho.fall ((Below.refl _ wr).alloc (Nat.le_refl _) (.cells #[.int .i64 x1, .slice A' n' c'] 43)) (by decide) (by omega) (by omega)).fr hEa hf (by decide) (by decide) (by omega) (by omega) (by omega)
              have HTK := Lib.hid htk; have HALL := Lib.hid hall
              have HEK : Hid ((writeD E x1 x2).kept = K) := Lib.hid (hsx.2.1.trans hek)
              have HSX := Lib.hid hsx; have HEW := Lib.hid hew
              clear hE hsix hfr hsl hx hEa ho htk hall hsx hek hew
              by_cases hwe : writeE E x1 x2 = 0
              · obtain ⟨hww, hx0, hx6, hx32⟩ := HSX.out.2.2.1 hwe
                rw [HEW.out, ← HTK.out] at hww
                have HWW := Lib.hid hww
                have HALL2 : Hid (∀ x ∈ ws.take (k + 1), 0 ≤ x.1 ∧ x.1 < 6 ∧ x.2.length = 32) := Lib.hid (by
                  rw [HTK.out]
                  intro x hx
                  rcases List.mem_append.1 hx with hx | hx
                  · exact HALL.out x hx
                  · simp at hx; subst hx; exact ⟨hx0, hx6, hx32⟩)
                rw [hwe] at HW
                clear hww hx0 hx6 hx32 hwe
                go_wp2_with fail
                refine HW.out.mono ?_
                rintro e w6 ⟨rfl, hE6, hf6⟩
                have HE6 := Lib.hid hE6; have HF6 := Lib.hid hf6
                clear hE6 hf6
                go_wp2
                go_roundw
                case rel => exact ⟨k + 1, by omega, by go_num, ⟨_, HE6.out, HSX.out.1, HEK.out, HWW.out⟩, HOA.out _ HF6.out, HALL2.out, HFA.out.trans HF6.out⟩
                case measure => simp [intOf]; omega
              · have hne : (writeE E x1 x2 != 0) = true := by simpa using hwe
                clear hwe
                generalize writeE E x1 x2 = r at *
                go_wp2_with fail
                refine HW.out.mono ?_
                rintro e w6 ⟨rfl, hE6, hf6⟩
                have HF6 := Lib.hid hf6
                clear hE6 hf6
                go_wp2
                go_ret
                exact ⟨rfl, hb05.trans ((HFA.out.trans HF6.out).old hpn hqn (by omega))⟩
            · have hkm : k = m := by omega
              subst hkm
              have hlm := HLM.out
              rw [List.take_of_length_le (by omega)] at hew hall
              obtain ⟨L, hL⟩ : ∃ L, doneTo (keepP keep) ws K ws.length = L := ⟨_, rfl⟩
              have hLl : L.length = 6 := by rw [← hL, doneTo_length]; exact HKL.out
              have hin : ∀ x ∈ ws, 0 ≤ x.1 := fun x hx => (hall x hx).1
              have h0 : mayE K.length ws = 0 := by
                rw [mayE_in (by rw [HKL.out]; omega) (by omega), if_pos]
                rw [List.all_eq_true]
                intro x hx
                have := hall x hx
                rw [HKL.out]
                simp [inSectors]; omega
              have hMB : mayB K ws L = true := by rw [← hL]; exact mayB_done _ h0 hin
              have hsh1 : ∀ x ∈ K, x.length ≤ 4096 := by rw [← hek]; exact hE.short.1
              have hsh2 : ∀ x ∈ ws, x.2.length ≤ 4096 := fun x hx => by have := (hall x hx).2.2; omega
              have hHC := disk_crash hE ((HKS.out.all hbr).keep (F' := FT w.heap.size wr) (.weaken _ fun b hb _ => .inl hb))
              have hcd : crashD keep E = { settleD (keepP keep) E with off := true, fuse := 0 } := crashD_on hsix.on
              have hck : (crashD keep E).kept = L := by rw [hcd, ← hL, ← hew, ← hek]; rfl
              have hcw : (crashD keep E).waits = [] := by rw [hcd]; rfl
              have hcs : (crashD keep E).size = 32 := by rw [hcd]; exact hsix.size
              obtain ⟨D6, hD6⟩ : ∃ D6, crashD keep E = D6 := ⟨_, rfl⟩
              rw [hD6] at hHC hck hcw hcs
              have HHC := Lib.hid hHC
              have HSIX : Hid (Six { D6 with off := false, fuse := 0 }) := Lib.hid ⟨by show D6.kept.length = 6; rw [hck]; exact hLl, hcs, rfl, rfl⟩
              have HCK := Lib.hid hck; have HCW := Lib.hid hcw; have HL := Lib.hid hLl; have H0 := Lib.hid h0; have HMB := Lib.hid hMB; have HSH1 := Lib.hid hsh1; have HSH2 := Lib.hid hsh2; have HLD := Lib.hid hL
              have HOF := Lib.hid fun (W' : World) (hf : Fr (DC w.heap.size p q) wr W') => ho.fr hE hf (by decide) (by decide) (by omega) (by omega) (by omega)
              have HFR := Lib.hid hfr
              clear hE hsix hek hew ho hall hfr hLl hin h0 hMB hsh1 hsh2 hHC hcd hck hcw hcs hD6 hL
              go_wp2_with fail
              refine HHC.out.mono ?_
              rintro e w6 ⟨rfl, hE6, hf6⟩
              have HP6 := Lib.hid (disk_power hE6)
              have HF6 := Lib.hid hf6
              clear hE6 hf6 HHC
              go_wp2_with fail
              refine HP6.out.mono ?_
              rintro e w7 ⟨rfl, hE7, hf7⟩
              have HF7 : Hid (Fr (DC w.heap.size p q) wr w7) := Lib.hid (HF6.out.trans hf7)
              have hb57 : Below w.heap.size w w7 := hb05.trans ((HFR.out.trans HF7.out).old hpn hqn (by omega))
              obtain ⟨D7, hD7⟩ : ∃ D7, ({ D6 with off := false, fuse := 0 } : DiskS) = D7 := ⟨_, rfl⟩
              have hk7 : D7.kept = L := by rw [← hD7]; exact HCK.out
              have hw7 : D7.waits = [] := by rw [← hD7]; exact HCW.out
              have hx7 : Six D7 := by rw [← hD7]; exact HSIX.out
              rw [hD7] at hE7
              have HE7 := Lib.hid hE7; have HK7 := Lib.hid hk7; have HW7 := Lib.hid hw7; have HX7 := Lib.hid hx7
              have hp7 := hE7.plt
              have hq7 := hE7.glt
              clear hE7 hf7 HP6 HF6 HCK HCW HSIX hD7 hk7 hw7 hx7
              have ho7 := HOF.out w7 HF7.out
              obtain ⟨Ai', ci', ei, hsi⟩ := ho7.sl (F' := fun _ => True) (fun _ _ => trivial) (fun _ _ => trivial)
              rw [HKL.out] at ei hsi
              cases ei
              have HSI := Lib.hid hsi
              have HAP := Lib.hid (apply_any hsi (HWS.out.all hb57) (HKS.out.all hb57) (by omega) HSH1.out HSH2.out)
              rw [H0.out] at HAP
              simp only [if_true] at HAP
              rw [HLD.out] at HAP
              have HMY := Lib.hid fun (W : World) (hb : Below w7.heap.size w7 W) (A' : Option Addr) (n' c' : Nat) (G' : Nat → Prop) (hs : Sl Enc.bytes W G' A' n' c' L) => May_any (hsi.all hb) ((HWS.out.all hb57).all hb) hs
              rw [HMB.out] at HMY
              clear ho7 hsi HLD HMB
              have hs57 := hb57.size
              go_wp2_with fail
              refine HAP.out.mono ?_
              rintro e w8 ⟨hb8, v8, F8, rfl, ho8, hF8⟩
              have hs8 := hb8.size
              obtain ⟨A8, c8, ev8, hs8l⟩ := ho8.slT
              rw [HL.out] at ev8 hs8l
              subst ev8
              have HS8 := Lib.hid hs8l
              have HE8 := Lib.hid (HE7.out.all hb8)
              clear ho8 hF8 hs8l HAP
              go_wp2
              go_loopw [107] (fun i wr => ∃ k : Nat, k ≤ 6 ∧ i = .int .i64 k ∧ Below w8.heap.size w8 wr) (fun i _ => 6 - (intOf i).toNat)
              case atStart => exact ⟨0, by omega, by simp, .refl _ _⟩
              case round =>
                obtain ⟨k, hk, rfl, hb9⟩ := hrel
                have hs9 := hb9.size
                by_cases hlt6 : k < 6
                · have hkl : k < L.length := by have := HL.out; omega
                  obtain ⟨hm0, hrb⟩ := HX7.out.read HW7.out hlt6
                  have hgd : D7.kept.getD k [] = L[k] := by rw [HK7.out]; simp [List.getD, hkl]
                  rw [hgd] at hrb
                  have HR := Lib.hid (disk_read (HE8.out.all hb9) (k : Int))
                  rw [hm0, hrb] at HR
                  have HS9 := Lib.hid (HS8.out.all hb9)
                  clear hm0 hrb hgd
                  go_wp2_with fail
                  refine HR.out.mono ?_
                  rintro e w10 ⟨v10, rfl, ho10, hb10⟩
                  obtain ⟨A10, c10, rfl, hs10⟩ := ho10.sl (F' := fun _ => True) (fun _ _ => trivial) (fun _ _ => trivial)
                  obtain ⟨ad8, B8, m8, d8, hA8, -, hc8, hs8'⟩ := (HS9.out.all hb10).slice k hkl
                  subst hA8
                  have HC := Lib.hid (same_bytes hs10 hs8')
                  simp only [decide_true] at HC
                  have hb810 := below_then hb9 hs9 hb10
                  obtain ⟨y, hy⟩ : ∃ y, L[k] = y := ⟨_, rfl⟩
                  rw [hy] at HC
                  rw [hy]
                  clear ho10 hs10 hs8' hy
                  go_wp2_with fail
                  refine HC.out.mono ?_
                  rintro e w11 ⟨rfl, hd11⟩
                  go_wp2
                  go_roundw
                  case rel => exact ⟨k + 1, by omega, by go_num, below_dr hb810 hd11⟩
                  case measure => simp [intOf]; omega
                · have hb79 := below_then hb8 hs8 hb9
                  have HMY9 := Lib.hid (HMY.out wr hb79 _ _ _ _ (HS8.out.all hb9))
                  go_wp2_with fail
                  refine HMY9.out.mono ?_
                  rintro e w10 ⟨rfl, hb10⟩
                  go_wp2
                  go_ret
                  exact ⟨rfl, below_then hb57 hs57 (below_then hb79 hb79.size hb10)⟩

set_option maxHeartbeats 1000000 in
theorem disklaw_walk {fs ws : List Entry} {keep : List Bool} (h : Sl Enc.entry w (fun b => b < w.heap.size) A n c fs) (g : Sl Enc.entry w (fun b => b < w.heap.size) B m d ws) (hk : Sl Enc.bool w (fun b => b < w.heap.size) C l e keep) :
    Calls Try.prog 6 #[.slice A n c, .slice B m d, .slice C l e] w fun e w' => e = .returned (.bool true) ∧ Below w.heap.size w w' := by
  have HA := Lib.hid (awake34 w)
  have h1 := h.max
  have h2 := g.max
  have h3 := hk.max
  by_cases hn : n ≤ 14
  · by_cases hm : m ≤ 14
    · by_cases hl : l ≤ 40
      · exact disklaw_main h g hk hn hm hl
      · have hdn : decide (14 < (n : Int)) = false := by simp; omega
        have hdm : decide (14 < (m : Int)) = false := by simp; omega
        have hdl : decide (40 < (l : Int)) = true := by simp; omega
        clear h g hk
        go_enter Try.func6, Try.ntmps6
        go_wp2_with fail
        refine HA.out.mono ?_
        rintro e w1 ⟨rfl, hb1⟩
        go_wp2
        go_ret
        exact ⟨rfl, hb1⟩
    · have hdn : decide (14 < (n : Int)) = false := by simp; omega
      have hdm : decide (14 < (m : Int)) = true := by simp; omega
      clear h g hk
      go_enter Try.func6, Try.ntmps6
      go_wp2_with fail
      refine HA.out.mono ?_
      rintro e w1 ⟨rfl, hb1⟩
      go_wp2
      go_ret
      exact ⟨rfl, hb1⟩
  · have hdn : decide (14 < (n : Int)) = true := by simp; omega
    clear h g hk
    go_enter Try.func6, Try.ntmps6
    go_wp2_with fail
    refine HA.out.mono ?_
    rintro e w1 ⟨rfl, hb1⟩
    go_wp2
    go_ret
    exact ⟨rfl, hb1⟩
end
end Go.Proofs.Ytdgcfgiedclmcaa
