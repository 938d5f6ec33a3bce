/- Contracts of the disk: Crash, step. -/
import Derived.Test.YtdgcfgiedclmcaaG2
namespace Go.Proofs.Ytdgcfgiedclmcaa
open Go.RowKit

theorem crashD_off {keep : List Bool} {D : DiskS} (h : D.off = true) : crashD keep D = D := by simp [crashD, h]
theorem crashD_on {keep : List Bool} {D : DiskS} (h : D.off = false) : crashD keep D = { settleD (keepP keep) D with off := true, fuse := 0 } := by simp [crashD, h]

section
variable {w : World} {n₀ p g : Nat} {D : DiskS} {A : Option Addr} {n c : Nat} {keep : List Bool}
theorem crash_pred (h : DiskAt w n₀ p g D) {b N : Nat} (hb : w.heap[b]? = some (.cells #[.slice A n c] 31 (0, 0))) (hbp : b ≠ p) (hbg : b ≠ g) (hs : Sl Enc.bool w (FT n₀ w) A n c keep) :
    PredC (DC n₀ p g) w N 74 #[.pointer (some ⟨b, 0, none⟩)] (keepP keep) := by
  refine ⟨enters_of Try.func74 (by kernel_rfl) rfl, fun W i hf _ => ?_⟩
  have hbl := (Array.getElem?_eq_some_iff.1 hb).1
  have hbw : W.heap[b]? = some (.cells #[.slice A n c] 31 (0, 0)) := (hf.block b hbl (by
    rintro (e | e | ⟨_, cs, fr, e⟩)
    · exact hbp e
    · exact hbg e
    · rw [hb] at e
      have h1 := Option.some.inj e
      injection h1 with _ h2
      exact absurd h2 (by decide))).trans hb
  have hc' : W.cell? ⟨b, 0, none⟩ = some (.slice A n c) := by simp [World.cell?, hbw]
  have hbW : b < W.heap.size := (Array.getElem?_eq_some_iff.1 hbw).1
  replace hs := hs.keep (h.data hf)
  have hln := hs.len
  have hnm := hs.max
  clear h hb hbw hf hbp hbg hbl
  have key : ∀ r, keepP keep i = r → Calls Try.prog 74 #[.int .i64 (i : Int), .pointer (some ⟨b, 0, none⟩)] W fun e w' => e = .returned (.bool r) ∧ Below W.heap.size W w' := by
    intro r hr
    have HR := Lib.hid hr; clear hr
    by_cases h1 : i < n
    · obtain ⟨ad, rfl, -, hci⟩ := hs.bool i (by omega)
      have HX := Lib.hid (keepP_at (keep := keep) (i := i) (by omega))
      clear hs
      go_enter Try.func74, Try.ntmps74
      go_wp2
      go_ret
      exact ⟨ret_bool (by rw [← HR.out, HX.out]), .refl _ _⟩
    · have HX := Lib.hid (keepP_no (keep := keep) (i := i) (by omega))
      clear hs
      go_enter Try.func74, Try.ntmps74
      go_wp2
      go_ret
      exact ⟨ret_bool (by rw [← HR.out, HX.out]), .refl _ _⟩
  exact key _ rfl

set_option maxHeartbeats 400000 in
theorem disk_crash (h : DiskAt w n₀ p g D) (hs : Sl Enc.bool w (FT n₀ w) A n c keep) :
    Calls Try.prog 28 #[.pointer (some ⟨p, 0, none⟩), .slice A n c] w fun e w' => e = .returned (.tuple #[]) ∧ DiskAt w' n₀ p g (crashD keep D) ∧ Fr (DC n₀ p g) w w' := by
  have HI := Lib.hid fun (W : World) (hd : DiskAt W n₀ p g D) => disk_is hd
  have h1 := h.alloc (.cells #[.slice A n c] 31)
  have HI1 := Lib.hid (HI.out _ h1)
  have hp := h.plt
  have hg := h.glt
  have hbox : (w.alloc (.cells #[.slice A n c] 31)).heap[w.heap.size]? = some (.cells #[.slice A n c] 31 (0, 0)) := heap_alloc_new w _
  have hs1 : Sl Enc.bool (w.alloc (.cells #[.slice A n c] 31)) (FT n₀ (w.alloc (.cells #[.slice A n c] 31))) A n c keep := hs.keep (h.data (.of_below ((Below.refl _ w).alloc (Nat.le_refl _) _)))
  have H1 := Lib.hid h1; have HB := Lib.hid hbox; have HS := Lib.hid hs1; have HF0 : Hid (Fr (DC n₀ p g) w (w.alloc (.cells #[.slice A n c] 31))) := Lib.hid ((Fr.refl _ w).alloc _)
  cases ho : D.off with
  | true =>
    have HE : Hid (crashD keep D = D) := Lib.hid (crashD_off ho)
    clear h h1 hbox hs hs1 HI HB HS hg hp
    go_enter Try.func28, Try.ntmps28
    go_wp2_with fail
    refine HI1.out.mono ?_
    rintro e w1 ⟨rfl, hd1⟩
    obtain ⟨vw, A', n', c', -, ⟨h0, -, -, h3, -, -, -⟩, -, -, -⟩ := (H1.out.dr hd1).fields
    rw [ho] at h3
    go_wp2
    go_end0
    exact ⟨rfl, by rw [HE.out]; exact H1.out.dr hd1, HF0.out.trans (.of_dr hd1)⟩
  | false =>
    have HE : Hid (crashD keep D = { settleD (keepP keep) D with off := true, fuse := 0 }) := Lib.hid (crashD_on ho)
    have HC := Lib.hid fun (W : World) (hd : Dr (w.alloc (.cells #[.slice A n c] 31)) W) => disk_settle (h1.dr hd) (crash_pred (h1.dr hd) (N := D.waits.length) (by rw [hd.heap]; exact hbox) (by omega) (by omega) (hs1.keep (h1.data (.of_dr hd))))
    clear h h1 hbox hs hs1 HI HB HS hg hp
    go_enter Try.func28, Try.ntmps28
    go_wp2_with fail
    refine HI1.out.mono ?_
    rintro e w1 ⟨rfl, hd1⟩
    obtain ⟨vw, A', n', c', -, ⟨h0, -, -, h3, -, -, -⟩, -, -, -⟩ := (H1.out.dr hd1).fields
    rw [ho] at h3
    have HC1 := Lib.hid (HC.out w1 hd1)
    go_wp2_with fail
    refine HC1.out.mono ?_
    rintro e w2 ⟨rfl, h2, hf2⟩
    obtain ⟨vw', A2, n2, c2, hc2, ⟨-, -, -, e3, e4, -, -⟩, hfz, -, -⟩ := h2.fields
    have hf3 := hfz 3
    have hf4 := hfz 4
    have H2 := Lib.hid h2; have HF2 := Lib.hid ((HF0.out.trans (.of_dr hd1)).trans hf2)
    clear h2 hf2 hc2 hfz HC HC1
    go_wp2
    go_end0
    refine ⟨rfl, ?_, ((HF2.out.setCell (fun _ => .inl rfl) _).setCell (fun _ => .inl rfl) _)⟩
    rw [HE.out]
    exact H2.out.turned (by simp [World.setCell]) (fun b _ hne => by rw [Below.heap_setCell _ _ _ _ hne, Below.heap_setCell _ _ _ _ hne]) (by omega) (fun vw A n c hc => by rw [blk_setCell (blk_setCell hc _) _]; rfl)
end
end Go.Proofs.Ytdgcfgiedclmcaa
