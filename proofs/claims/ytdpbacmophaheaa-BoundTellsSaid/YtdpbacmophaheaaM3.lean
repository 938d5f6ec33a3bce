/- Contracts for the laws on bounds: how many sectors the state has, how many a record has; where the parts of a volume lie. -/
import Derived.Test.YtdpbacmophaheaaM2
namespace Go.Proofs.Ytdpbacmophaheaa
open Go.RowKit

/-- how many times a goes into N, the rest counted -/
def upN (N a : Int) : Int := (N + a - 1) / a
theorem lt_upN {N a : Int} (ha : 0 < a) (k : Int) : k * a < N ↔ k < upN N a := by
  have h := Int.le_ediv_iff_mul_le (a := k + 1) (b := N + a - 1) ha
  unfold upN
  constructor
  · intro hk
    have : k + 1 ≤ (N + a - 1) / a := h.2 (by rw [Int.add_mul]; omega)
    omega
  · intro hk
    have := h.1 (by omega)
    rw [Int.add_mul] at this
    omega
theorem upN_bd {N a : Int} (h0 : 0 ≤ N) (h1 : N ≤ 600000) (ha : 64 ≤ a) : 0 ≤ upN N a ∧ upN N a ≤ 9376 := by
  unfold upN
  constructor
  · exact Int.ediv_nonneg (by omega) (by omega)
  · apply Int.ediv_le_of_le_mul (by omega)
    omega
theorem upN_pos {N a : Int} (h0 : 1 ≤ N) (ha : 0 < a) : 1 ≤ upN N a := by
  have := (lt_upN (N := N) ha 0).1 (by omega)
  omega
theorem mul_bd {k : Nat} {a : Int} (hk : (k : Int) ≤ 10000) (h2 : 64 ≤ a) (h3 : a ≤ 256) : 0 ≤ (k : Int) * a ∧ (k : Int) * a ≤ 2560000 := by
  constructor
  · exact Int.mul_nonneg (by omega) (by omega)
  · have h1 : (k : Int) * a ≤ (k : Int) * 256 := Int.mul_le_mul_of_nonneg_left h3 (by omega)
    omega
theorem indexN_up (n s : Int) : indexN n s = upN (4 * n) s := rfl
def metaN (b c d : Int) : Int := 64 + 48 * b + 320 * c + 96 * d
def metaS (a b c d : Int) : Int := upN (metaN b c d + 4) a

set_option maxHeartbeats 1000000 in
theorem ref_size (w : World) (n s : Int) (h0 : 0 ≤ n) (h1 : n ≤ 65536) (h2 : 64 ≤ s) (h3 : s ≤ 256) :
    Calls Try.prog 18 #[.int .i64 n, .int .i64 s] w fun e w' => e = .returned (.int .i64 (sizeN n s)) ∧ w = w' := by
  have hb := upN_bd (N := 4 * n) (a := s) (by omega) (by omega) h2
  have HL := Lib.hid fun k => lt_upN (N := 4 * n) (a := s) (by omega) k
  have HZ : Hid (sizeN n s = 1 + upN (4 * n) s + n) := Lib.hid rfl
  generalize upN (4 * n) s = u at *
  obtain ⟨hb1, hb2⟩ := hb
  go_enter Try.func18, Try.ntmps18
  go_wp2
  go_loop [5] (fun i => ∃ k : Nat, (k : Int) ≤ u ∧ i = .int .i64 k) (fun i => (u - intOf i).toNat)
  case atStart => exact ⟨0, by omega, by simp⟩
  case round =>
    obtain ⟨k, hk, rfl⟩ := hrel
    obtain ⟨hm1, hm2⟩ := mul_bd (k := k) (a := s) (by omega) h2 h3
    have hl := HL.out k
    by_cases hlt : (k : Int) < u
    · have hlt' := hl.2 hlt
      clear hl
      go_wp2
      go_round
      case rel => exact ⟨k + 1, by omega, by go_num⟩
      case measure => simp [intOf]; omega
    · have hlt' : ¬ (k : Int) * s < 4 * n := fun h => hlt (hl.1 h)
      clear hl
      go_wp2
      go_ret
      exact ⟨ret_int (by rw [HZ.out]; omega), rfl⟩

set_option maxHeartbeats 1000000 in
theorem ref_meta (w : World) (a b c d : Int) (hg : geomB a b c d = true) :
    Calls Try.prog 114 #[.agg #[.int .i64 a, .int .i64 b, .int .i64 c, .int .i64 d]] w fun e w' => e = .returned (.tuple #[.int .i64 (metaN b c d), .int .i64 (metaS a b c d)]) ∧ Below w.heap.size w w' := by
  obtain ⟨-, h1, h2, h3, h4, h5, h6, h7, h8⟩ := geomB_in hg
  clear hg
  have hN : Hid (metaN b c d = 64 + 48 * b + 320 * c + 96 * d) := Lib.hid rfl
  have hN1 : 0 ≤ metaN b c d ∧ metaN b c d ≤ 500000 := by rw [hN.out]; omega
  have hb := upN_bd (N := metaN b c d + 4) (a := a) (by omega) (by omega) h1
  have HL := Lib.hid fun k => lt_upN (N := metaN b c d + 4) (a := a) (by omega) k
  have HZ : Hid (metaS a b c d = upN (metaN b c d + 4) a) := Lib.hid rfl
  generalize upN (metaN b c d + 4) a = u at *
  obtain ⟨hb1, hb2⟩ := hb
  obtain ⟨hN1, hN2⟩ := hN1
  go_enter Try.func114, Try.ntmps114
  go_wp2
  rw [← hN.out]
  go_loop [5] (fun i => ∃ k : Nat, (k : Int) ≤ u ∧ i = .int .i64 k) (fun i => (u - intOf i).toNat)
  case atStart => exact ⟨0, by omega, by simp⟩
  case round =>
    obtain ⟨k, hk, rfl⟩ := hrel
    obtain ⟨hm1, hm2⟩ := mul_bd (k := k) (a := a) (by omega) h1 h2
    have hl := HL.out k
    by_cases hlt : (k : Int) < u
    · have hlt' := hl.2 hlt
      clear hl
      go_wp2
      go_round
      case rel => exact ⟨k + 1, by omega, by go_num⟩
      case measure => simp [intOf]; omega
    · have hlt' : ¬ (k : Int) * a < metaN b c d + 4 := fun h => hlt (hl.1 h)
      have HE : Hid ((k : Int) = metaS a b c d) := Lib.hid (by rw [HZ.out]; omega)
      clear hl
      go_wp2
      go_ret2
      exact ⟨congrArg (fun x => Ending.returned (.tuple #[.int .i64 (metaN b c d), .int .i64 x])) HE.out, (Below.refl _ _).alloc (Nat.le_refl _) _⟩
end Go.Proofs.Ytdpbacmophaheaa
