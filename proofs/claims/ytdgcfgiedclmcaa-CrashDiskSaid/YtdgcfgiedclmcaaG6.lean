/- Contracts of the disk: Read. -/
import Derived.Test.YtdgcfgiedclmcaaG5
import Derived.WalkMore
namespace Go.Proofs.Ytdgcfgiedclmcaa
open Go.RowKit

/-- what all that waits would leave -/
def seenD (D : DiskS) : List (List Int) := doneTo (fun _ => true) D.waits D.kept D.waits.length
def readB (D : DiskS) (s : Int) : List Int := if mayD D s = 0 then (seenD D).getD s.toNat [] else []
theorem seenD_length (D : DiskS) : (seenD D).length = D.kept.length := doneTo_length _ _ _ _
theorem doneTo_tail {ws : List Entry} {im : List (List Int)} {i k : Nat} (d : Nat) (hd : k + d ≤ ws.length) (h : ∀ j (hj : j < ws.length), k ≤ j → ws[j].1.toNat ≠ i) :
    (doneTo (fun _ => true) ws im (k + d)).getD i [] = (doneTo (fun _ => true) ws im k).getD i [] := by
  induction d with
  | zero => rfl
  | succ d ih =>
    rw [← Nat.add_assoc, doneTo_succ, wstep_yes rfl (by omega)]
    have := h (k + d) (by omega) (by omega)
    have e : ((doneTo (fun _ => true) ws im (k + d)).set ws[k + d].1.toNat ws[k + d].2).getD i [] = (doneTo (fun _ => true) ws im (k + d)).getD i [] := by simp [List.getD, List.getElem?_set_ne this]
    rw [e, ih (by omega)]
/-- found: the last write -/
theorem seen_hit {D : DiskS} {s k : Nat} (hs : s < D.kept.length) (hk : k < D.waits.length) (hx : D.waits[k].1 = (s : Int)) (h : ∀ j (hj : j < D.waits.length), k + 1 ≤ j → D.waits[j].1 ≠ (s : Int)) (hf : ∀ x ∈ D.waits, 0 ≤ x.1) :
    (seenD D).getD s [] = D.waits[k].2 := by
  have h1 := doneTo_tail (ws := D.waits) (im := D.kept) (i := s) (k := k + 1) (D.waits.length - (k + 1)) (by omega) (fun j hj hkj e => h j hj hkj (by have := hf _ (List.getElem_mem hj); omega))
  rw [show k + 1 + (D.waits.length - (k + 1)) = D.waits.length by omega] at h1
  rw [seenD, h1, doneTo_succ, wstep_yes rfl hk]
  have hl := doneTo_length (fun _ => true) D.waits D.kept k
  simp [List.getD, hx, hl, hs]
theorem seen_miss {D : DiskS} {s : Nat} (h : ∀ j (hj : j < D.waits.length), D.waits[j].1 ≠ (s : Int)) (hf : ∀ x ∈ D.waits, 0 ≤ x.1) : (seenD D).getD s [] = D.kept.getD s [] := by
  have h1 := doneTo_tail (ws := D.waits) (im := D.kept) (i := s) (k := 0) D.waits.length (by omega) (fun j hj _ e => h j hj (by have := hf _ (List.getElem_mem hj); omega))
  rw [Nat.zero_add] at h1
  rw [seenD, h1]; rfl

section
variable {w : World} {n₀ p g : Nat} {D : DiskS}
set_option maxHeartbeats 1000000 in
theorem disk_read (h : DiskAt w n₀ p g D) (s : Int) :
    Calls Try.prog 27 #[.pointer (some ⟨p, 0, none⟩), .int .i64 s] w fun e w' => ∃ v, e = .returned (.tuple #[v, .int .i64 (mayD D s)]) ∧ Own Enc.u8 5 w' w.heap.size (fun _ => False) v (readB D s) ∧ Below w.heap.size w w' := by
  have HM := Lib.hid (disk_may h s)
  by_cases hm : mayD D s = 0
  · rw [hm] at HM ⊢
    obtain ⟨hoff, hs0, hs1⟩ := mayD_ok hm
    obtain ⟨sn, rfl⟩ : ∃ sn : Nat, s = sn := ⟨s.toNat, by omega⟩
    have hRB : readB D (sn : Int) = (seenD D).getD sn [] := by simp [readB, hm]
    have HRB := Lib.hid hRB
    obtain ⟨vw, A, n, c, hc, ⟨c0, c1, c2, c3, c4, c5, c6⟩, hf, ho, -⟩ := h.fields
    obtain ⟨Aw, cw, rfl, hsw⟩ := ho.sl (F' := fun _ => True) (fun _ _ => trivial) (fun _ _ => trivial)
    obtain ⟨Ak, ck, ek, hsk⟩ := h.row.sl (F' := fun _ => True) (fun _ _ => trivial) (fun _ _ => trivial)
    cases ek
    have hmx := hsw.max
    have hmk := h.most
    obtain ⟨m, hmm⟩ : ∃ m, D.waits.length = m := ⟨_, rfl⟩
    obtain ⟨l, hll⟩ : ∃ l, D.kept.length = l := ⟨_, rfl⟩
    rw [hmm] at hsw c2 hmx
    rw [hll] at hsk c0 hs1 hmk
    have HFI := Lib.hid fun x hx => (h.fits x hx).1
    have HSH := Lib.hid h.short
    have HSW := Lib.hid hsw; have HSK := Lib.hid hsk; have HMM := Lib.hid hmm; have HLL := Lib.hid hll
    have hpl := h.plt
    clear h hc c1 c3 c4 c5 c6 hf ho hsw hsk hmm hll hm hRB hoff
    go_enter Try.func27, Try.ntmps27
    go_wp2
    go_step3
    go_wp2_with fail
    refine HM.out.mono ?_
    rintro e w1 ⟨rfl, hd1⟩
    have c0' := hd1.cell c0
    have c2' := hd1.cell c2
    have hp1 := hd1.size
    have HS1 := Lib.hid (HSW.out.all hd1.below)
    have HK1 := Lib.hid (HSK.out.all hd1.below)
    have HD1 := Lib.hid hd1
    clear c0 c2 hd1 HM HSW HSK hp1
    go_wp2
    go_step3
    go_wp2
    go_loopw [7] (fun i wr => ∃ k : Nat, k ≤ m ∧ i = .int .i64 ((k : Int) - 1) ∧ (∀ j (hj : j < D.waits.length), k ≤ j → D.waits[j].1 ≠ (sn : Int)) ∧ wr = w1) (fun i _ => (intOf i + 1).toNat)
    case atStart => exact ⟨m, by omega, by simp, fun j hj hmj => absurd hj (by have := HMM.out; omega), rfl⟩
    case round =>
      obtain ⟨k, hk, rfl, hnone, rfl⟩ := hrel
      have HN := Lib.hid hnone
      clear hnone
      by_cases hk0 : k = 0
      · subst hk0
        have hskl : sn < D.kept.length := by have := HLL.out; omega
        obtain ⟨ad, B, m1, d1, hA, -, hc1, hsl⟩ := HK1.out.slice sn hskl
        injection hA with hA
        subst hA
        rw [add_plain] at hc1
        have HCL := Lib.hid (clone_bytes hsl (by have := hsl.len; have := HSH.out.1 _ (List.getElem_mem hskl); omega))
        have HR : Hid (readB D (sn : Int) = D.kept[sn]) := Lib.hid (by rw [HRB.out, seen_miss (fun j hj => HN.out j hj (by omega)) HFI.out]; simp [List.getD, hskl])
        have hb1 := HD1.out.below
        clear hsl
        go_wp2_with fail
        refine HCL.out.mono ?_
        rintro e w2 ⟨v2, rfl, ho2, hb2⟩
        have HO2 := Lib.hid ho2
        clear ho2
        go_wp2
        rw [Exit.noGoto_ret]
        go_ret2
        exact ⟨v2, rfl, by rw [HR.out]; exact HO2.out.lower hb1.size, below_then hb1 hb1.size hb2⟩
      · obtain ⟨k', rfl⟩ : ∃ k', k = k' + 1 := ⟨k - 1, by omega⟩
        have e1 : ((k' + 1 : Nat) : Int) - 1 = (k' : Int) := by omega
        rw [e1]
        have hka : k' < D.waits.length := by have := HMM.out; omega
        obtain ⟨ad, B, m1, d1, rfl, -, hc1, hc2, hsl⟩ := HS1.out.entry k' hka
        have hb1 := HD1.out.below
        by_cases hx : D.waits[k'].1 = (sn : Int)
        · have HCL := Lib.hid (clone_bytes hsl (by have := hsl.len; have := HSH.out.2 _ (List.getElem_mem hka); omega))
          have HR : Hid (readB D (sn : Int) = D.waits[k'].2) := Lib.hid (by rw [HRB.out, seen_hit (by have := HLL.out; omega) hka hx (fun j hj hkj => HN.out j hj hkj) HFI.out])
          rw [hx] at hc1
          have hne : ((sn : Int) != (sn : Int)) = false := by simp
          clear hsl hx e1
          go_wp2_with fail
          refine HCL.out.mono ?_
          rintro e w2 ⟨v2, rfl, ho2, hb2⟩
          have HO2 := Lib.hid ho2
          clear ho2
          go_wp2
          rw [Exit.noGoto_ret]
          go_ret2
          exact ⟨v2, rfl, by rw [HR.out]; exact HO2.out.lower hb1.size, below_then hb1 hb1.size hb2⟩
        · have HX := Lib.hid hx
          obtain ⟨x1, hx1⟩ : ∃ x1, D.waits[k'].1 = x1 := ⟨_, rfl⟩
          have HX1 := Lib.hid hx1
          rw [hx1] at hc1 hx
          have hne : (x1 != (sn : Int)) = true := by simpa using hx
          clear hsl hx e1 hx1
          go_wp2
          go_roundw
          case rel => exact ⟨k', by omega, by go_num, fun j hj hkj => by
            rcases Nat.lt_or_ge k' j with h | h
            · exact HN.out j hj h
            · have : j = k' := by omega
              subst this
              exact HX.out, trivial⟩
          case measure => simp [intOf]
  · have hne : (mayD D s != 0) = true := by simpa using hm
    have HR : Hid (readB D s = []) := Lib.hid (by simp [readB, hm])
    clear h hm
    generalize mayD D s = r at *
    go_enter Try.func27, Try.ntmps27
    go_wp2
    go_step3
    go_wp2_with fail
    refine HM.out.mono ?_
    rintro e w1 ⟨rfl, hd1⟩
    go_wp2
    rw [Exit.noGoto_ret]
    go_ret2
    exact ⟨_, rfl, by rw [HR.out]; exact Own.nil _ _ _ _, hd1.below⟩
end
end Go.Proofs.Ytdgcfgiedclmcaa
