/- Contracts: crash.Apply; law34.done. -/
import Derived.Test.YtdgcfgiedclmcaaC6
namespace Go.Proofs.Ytdgcfgiedclmcaa
open Go.RowKit

def keepP (keep : List Bool) (i : Nat) : Bool := keep.getD i false
theorem keepP_no {keep : List Bool} {i : Nat} (h : ¬ i < keep.length) : keepP keep i = false := by
  have h' : keep[i]? = none := List.getElem?_eq_none (by omega)
  simp [keepP, List.getD, h']
theorem keepP_at {keep : List Bool} {i : Nat} (h : i < keep.length) : keepP keep i = keep[i] := by simp [keepP, List.getD, h]

section
variable {w : World} {F G H : Nat → Prop} {A B D : Option Addr} {n c m d k e : Nat}
set_option maxHeartbeats 400000 in
theorem apply_pred {keep : List Bool} {b N : Nat} (hc : w.cell? ⟨b, 0, none⟩ = some (.slice D k e)) (h : Sl Enc.bool w H D k e keep) : PredI w N 64 #[.pointer (some ⟨b, 0, none⟩)] (keepP keep) := by
  refine ⟨enters_of Try.func64 (by kernel_rfl) rfl, fun W i _ hb => ?_⟩
  have hc' := (hb.cell (p := ⟨b, 0, none⟩) (World.block_lt_of_cell? w _ hc)).trans hc
  replace h := h.all hb
  have hln := h.len
  clear hc hb
  have key : ∀ r, keepP keep i = r → Calls Try.prog 64 #[.int .i64 (i : Int), .pointer (some ⟨b, 0, none⟩)] W fun e w' => e = .returned (.bool r) ∧ Below W.heap.size W w' := by
    intro r hr
    have HR := Lib.hid hr; clear hr
    by_cases h1 : i < k
    · obtain ⟨ad, rfl, -, hci⟩ := h.bool i (by omega)
      have HX := Lib.hid (keepP_at (keep := keep) (i := i) (by omega))
      clear h
      go_enter Try.func64, Try.ntmps64
      go_wp2
      go_ret
      exact ⟨ret_bool (by rw [← HR.out, HX.out]), .refl _ _⟩
    · have HX := Lib.hid (keepP_no (keep := keep) (i := i) (by omega))
      clear h
      go_enter Try.func64, Try.ntmps64
      go_wp2
      go_ret
      exact ⟨ret_bool (by rw [← HR.out, HX.out]), .refl _ _⟩
  exact key _ rfl

/-- what crash.Apply answers -/
def applyE (im : List (List Int)) (ws : List Entry) : Int := mayE im.length ws
set_option maxHeartbeats 400000 in
theorem apply_any {im : List (List Int)} {ws : List Entry} {keep : List Bool} (h : Sl Enc.bytes w F A n c im) (g : Sl Enc.entry w G B m d ws) (hk : Sl Enc.bool w H D k e keep)
    (hn : n ≤ 4096) (hi : ∀ x ∈ im, x.length ≤ 4096) (hw : ∀ x ∈ ws, x.2.length ≤ 4096) :
    Calls Try.prog 19 #[.slice A n c, .slice B m d, .slice D k e] w fun e w' => Below w.heap.size w w' ∧ ∃ v F', e = .returned (.tuple #[v, .int .i64 (mayE im.length ws)]) ∧
      Own (Enc.obytes 5) 38 w' w.heap.size F' v (if mayE im.length ws = 0 then doneTo (keepP keep) ws im ws.length else []) ∧ (∀ b, F' b → w.heap.size ≤ b) := by
  have hln := h.len
  have hbx : (w.alloc (.cells #[.slice D k e] 31)).cell? ⟨w.heap.size, 0, none⟩ = some (.slice D k e) := by simp
  have hb0 := below_box (Below.refl w.heap.size w) (Nat.le_refl _) (.cells #[.slice D k e] 31)
  have HM := Lib.hid (may_any (s := (n : Int)) (g.all hb0))
  have HE : Hid (mayE im.length ws = mayE n ws) := Lib.hid (by rw [hln])
  by_cases h0 : mayE n ws = 0
  · rw [h0] at HM
    have hin : ∀ x ∈ ws, 0 ≤ x.1 ∧ x.1 < n := by
      intro x hx
      have : ws.all (inSectors n) = true := by
        cases ha : ws.all (inSectors n) with
        | true => rfl
        | false => simp [mayE, ha] at h0
      have := List.all_eq_true.1 this x hx
      simpa [inSectors] using this
    have HD := Lib.hid (fun (w1 : World) (hd : Below (w.alloc (.cells #[.slice D k e] 31)).heap.size (w.alloc (.cells #[.slice D k e] 31)) w1) =>
      done_any ((h.all hb0).all hd) ((g.all hb0).all hd) (apply_pred (N := ws.length) ((hd.cell (p := ⟨w.heap.size, 0, none⟩) (by simp)).trans hbx) ((hk.all hb0).all hd)) hin hn hi hw)
    have H0 := Lib.hid h0
    clear h g hk hbx h0 hin hi hw hln
    rw [HE.out, H0.out, if_pos rfl]
    go_enter Try.func19, Try.ntmps19
    go_wp2_with fail
    refine HM.out.mono ?_
    rintro e w1 ⟨rfl, hd1⟩
    have HD1 := Lib.hid (HD.out w1 hd1)
    go_wp2_with fail
    refine HD1.out.mono ?_
    rintro e w2 ⟨v, F', rfl, ho, hF, hd2⟩
    have hs1 : w.heap.size ≤ w1.heap.size := by have := hd1.size; simp at this; omega
    have hb1 : Below w.heap.size w w1 := hb0.trans (hd1.mono (by simp))
    have HO := Lib.hid ho; clear ho
    have HF := Lib.hid hF; clear hF
    go_wp2
    go_ret2
    exact ⟨below_then hb1 hs1 hd2, v, F', rfl, HO.out.lower hs1, fun b hb => Nat.le_trans hs1 (HF.out b hb)⟩
  · have hne : ((mayE n ws) != 0) = true := by simpa using h0
    have H0 := Lib.hid h0
    clear h g hk hbx h0 hi hw hln
    rw [HE.out, if_neg H0.out]
    generalize mayE n ws = r at *
    go_enter Try.func19, Try.ntmps19
    go_wp2_with fail
    refine HM.out.mono ?_
    rintro e w1 ⟨rfl, hd1⟩
    have hb1 : Below w.heap.size w w1 := hb0.trans (hd1.mono (by simp))
    go_wp2
    go_ret2
    exact ⟨hb1, _, _, rfl, Own.nil _ _ _ _, fun _ h => h.elim⟩
end
end Go.Proofs.Ytdgcfgiedclmcaa
