/- Contracts of the disk: step, Flush. -/
import Derived.Test.YtdgcfgiedclmcaaG3
namespace Go.Proofs.Ytdgcfgiedclmcaa
open Go.RowKit

def stepE (D : DiskS) : Int := if D.fuse = 1 then 40 else 0
section
variable {w : World} {n₀ p g : Nat} {D : DiskS} {A : Option Addr} {n c : Nat}
set_option maxHeartbeats 400000 in
theorem disk_step (h : DiskAt w n₀ p g D) :
    Calls Try.prog 69 #[.pointer (some ⟨p, 0, none⟩)] w fun e w' => e = .returned (.int .i64 (stepE D)) ∧ DiskAt w' n₀ p g (stepD D) ∧ Fr (DC n₀ p g) w w' := by
  obtain ⟨vw, A, n, c, hc, ⟨c0, c1, c2, c3, c4, c5, c6⟩, hf, ho, hk⟩ := h.fields
  have hfu := h.fuse
  by_cases h1 : D.fuse = 1
  · have HC := Lib.hid (disk_crash h hk)
    rw [show stepE D = 40 by simp [stepE, h1], show stepD D = crashD D.keep D by simp [stepD, h1]]
    rw [h1] at c4
    clear h hc c0 c1 c2 c3 c6 hf ho hk hfu h1
    go_enter Try.func69, Try.ntmps69
    go_wp2_with fail
    refine HC.out.mono ?_
    rintro e w1 ⟨rfl, h1, hf1⟩
    have H1 := Lib.hid h1; have HF := Lib.hid hf1
    clear h1 hf1
    go_wp2
    go_ret
    exact ⟨rfl, H1.out, HF.out⟩
  · rw [show stepE D = 0 by simp [stepE, h1], show stepD D = { D with fuse := max (D.fuse - 1) 0, steps := wrap64 (D.steps + 1) } by simp [stepD, h1]]
    have hne : (D.fuse == 1) = false := by simpa using h1
    have hf4 := hf 4
    have hf6 := hf 6
    have HH := Lib.hid h
    have HNE := Lib.hid h1
    clear h hc c0 c1 c2 c3 c5 hf ho hk h1
    go_enter Try.func69, Try.ntmps69
    go_wp2
    · have e : max (D.fuse - 1) 0 = 0 := by omega
      go_ret
      refine ⟨rfl, ?_, ((Fr.refl _ _).setCell (fun _ => .inl rfl) _).setCell (fun _ => .inl rfl) _⟩
      rw [e]
      exact HH.out.turned (off := D.off) (by simp [World.setCell]) (fun b _ hne => by rw [Below.heap_setCell _ _ _ _ hne, Below.heap_setCell _ _ _ _ hne]) (by omega) (fun vw A n c hc => by rw [blk_setCell (blk_setCell hc _) _]; rfl)
    · have e : max (D.fuse - 1) 0 = D.fuse - 1 := by omega
      go_ret
      refine ⟨rfl, ?_, ((Fr.refl _ _).setCell (fun _ => .inl rfl) _).setCell (fun _ => .inl rfl) _⟩
      rw [e]
      exact HH.out.turned (off := D.off) (by simp [World.setCell]) (fun b _ hne => by rw [Below.heap_setCell _ _ _ _ hne, Below.heap_setCell _ _ _ _ hne]) (by omega) (fun vw A n c hc => by rw [blk_setCell (blk_setCell hc _) _]; rfl)

/-- what Flush answers, and what it leaves -/
def flushE (D : DiskS) : Int := if D.off then 40 else stepE D
def flushD (D : DiskS) : DiskS := if D.off then D else if D.fuse = 1 then crashD D.keep D else settleD (fun _ => true) (stepD D)
theorem all_pred (C : Nat → Option Obj → Prop) (w : World) (N : Nat) : PredC C w N 72 #[] (fun _ => true) := by
  refine ⟨enters_of Try.func72 (by kernel_rfl) rfl, fun W i _ _ => ?_⟩
  show Calls Try.prog 72 #[.int .i64 (i : Int)] W _
  go_enter Try.func72, Try.ntmps72
  go_wp2
  go_ret
  exact ⟨rfl, .refl _ _⟩
set_option maxHeartbeats 400000 in
theorem disk_flush (h : DiskAt w n₀ p g D) :
    Calls Try.prog 26 #[.pointer (some ⟨p, 0, none⟩)] w fun e w' => e = .returned (.int .i64 (flushE D)) ∧ DiskAt w' n₀ p g (flushD D) ∧ Fr (DC n₀ p g) w w' := by
  have HM := Lib.hid (disk_may h 0)
  have HS := Lib.hid fun (W : World) (hd : Dr w W) => disk_step (h.dr hd)
  have hpos := h.pos
  cases ho : D.off with
  | true =>
    rw [show mayD D 0 = 40 by simp [mayD, ho]] at HM
    rw [show flushE D = 40 by simp [flushE, ho], show flushD D = D by simp [flushD, ho]]
    have HH := Lib.hid h
    clear h HS hpos ho
    go_enter Try.func26, Try.ntmps26
    go_wp2_with fail
    refine HM.out.mono ?_
    rintro e w1 ⟨rfl, hd1⟩
    go_wp2
    go_ret
    exact ⟨rfl, HH.out.dr hd1, .of_dr hd1⟩
  | false =>
    rw [show mayD D 0 = 0 by unfold mayD; rw [ho, if_neg (by decide), if_neg (by omega)]] at HM
    by_cases h1 : D.fuse = 1
    · rw [show stepE D = 40 by simp [stepE, h1], show stepD D = crashD D.keep D by simp [stepD, h1]] at HS
      rw [show flushE D = 40 by simp [flushE, ho, stepE, h1], show flushD D = crashD D.keep D by simp [flushD, ho, h1]]
      clear h hpos ho h1
      go_enter Try.func26, Try.ntmps26
      go_wp2_with fail
      refine HM.out.mono ?_
      rintro e w1 ⟨rfl, hd1⟩
      have HS1 := Lib.hid (HS.out w1 hd1)
      go_wp2_with fail
      refine HS1.out.mono ?_
      rintro e w2 ⟨rfl, hk2, hf2⟩
      have HK2 := Lib.hid hk2; have HF2 := Lib.hid hf2
      clear hk2 hf2 HS
      go_wp2
      go_ret
      exact ⟨rfl, HK2.out, (Fr.of_dr hd1).trans HF2.out⟩
    · rw [show stepE D = 0 by simp [stepE, h1]] at HS
      rw [show flushE D = 0 by simp [flushE, ho, stepE, h1], show flushD D = settleD (fun _ => true) (stepD D) by simp [flushD, ho, h1]]
      clear h hpos ho h1
      generalize stepD D = E at *
      go_enter Try.func26, Try.ntmps26
      go_wp2_with fail
      refine HM.out.mono ?_
      rintro e w1 ⟨rfl, hd1⟩
      have HS1 := Lib.hid (HS.out w1 hd1)
      go_wp2_with fail
      refine HS1.out.mono ?_
      rintro e w2 ⟨rfl, hk2, hf2⟩
      have HC2 := Lib.hid (disk_settle hk2 (all_pred _ w2 _))
      have HF2 := Lib.hid hf2
      clear hk2 hf2 HS HS1
      go_wp2_with fail
      refine HC2.out.mono ?_
      rintro e w3 ⟨rfl, hk3, hf3⟩
      have HK3 := Lib.hid hk3; have HF3 := Lib.hid hf3
      clear hk3 hf3
      go_wp2
      go_ret
      exact ⟨rfl, HK3.out, ((Fr.of_dr hd1).trans HF2.out).trans HF3.out⟩
end
end Go.Proofs.Ytdgcfgiedclmcaa
