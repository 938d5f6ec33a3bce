/- The walk of the law BoundTells: the main way. -/
import Derived.Test.YtdpbacmophaheaaMC
namespace Go.Proofs.Ytdpbacmophaheaa
open Go.RowKit

theorem Try.infoOp : (Try.prog.info? 88).map (fun i => (i.zero, i.size, i.bytes)) = some (some (.agg #[.int .i64 0, .int .i64 0, .int .i64 0, .int .i64 0, .int .i64 0, .slice none 0 0, .slice none 0 0]), 7, 88) := by kernel_rfl
theorem drawsB_eq (u : Int) : drawsB u = ((decide (2 ≤ u) && decide (u ≤ 5)) || (u == 10)) := by
  rw [Bool.eq_iff_iff]; simp [drawsB]; omega
theorem fld_meta (y0 y1 y2 y3 y4 y5 y6 y7 y8 : Int) (w : World) : (Instr.field 59 (.agg #[.int .i64 y0, .int .i64 y1, .int .i64 y2, .int .i64 y3, .int .i64 y4, .int .i64 y5, .int .i64 y6, .int .i64 y7, .int .i64 y8]) 2).run Try.prog w = .ok (.agg #[.int .i64 y4, .int .i64 y5]) w := by kernel_rfl
theorem fld_len (y4 y5 : Int) (w : World) : (Instr.field 57 (.agg #[.int .i64 y4, .int .i64 y5]) 1).run Try.prog w = .ok (.int .i64 y5) w := by kernel_rfl
theorem add_tail (g m : Nat) : ((⟨g, 0, none⟩ : Addr).add (1 * (Enc.int .i64).size)).add m = ⟨g, 1 + m, none⟩ := by
  rw [add_plain]
  show (⟨g, 1, none⟩ : Addr).add m = _
  unfold Addr.add
  split <;> simp_all
theorem bytes_law {l : List Int} {n : Nat} (h : l.length = n) : bytesN 3 l 9 = if decide ((n : Int) ≤ 64) && l.all goodX then 153 + 54 * (n : Int) + 72 + costTo l n else 0 := by
  have e : guardN 3 n 9 = decide ((n : Int) ≤ 64) := by simp [guardN]; omega
  rw [bytesN, h, e]
  split
  · unfold headN; omega
  · rfl
theorem counts_law {n : Nat} (h1 : 1 ≤ n) (h2 : n ≤ 4096) : ∃ C, countsN n = C ∧ (C.length ≤ 7 ∧ 2 ≤ C.length) ∧ C.tail.sum = (totN n : Int) ∧ ∀ x ∈ C.tail, 0 ≤ x ∧ x ≤ 4096 := by
  refine ⟨_, rfl, ?_, ?_, ?_⟩
  · have := depthN_bd n
    simp [countsN, upTo_length]; omega
  · have h := up_all n h1 h2
    simp only [Bool.and_eq_true, beq_iff_eq] at h
    rw [← h.2, countsN, upTo_succ, List.reverse_append]
    simp [upTo]
    generalize List.range (depthN n) = L
    induction L with
    | nil => rfl
    | cons a L ih => simp [ih]
  · intro x hx
    rw [countsN, upTo_succ, List.reverse_append] at hx
    simp [upTo] at hx
    obtain ⟨i, -, rfl⟩ := hx
    have := upL_bd h2 h1 i
    omega
theorem bytesZ {w : World} {A : Option Addr} {n c : Nat} {t e : Int} (hg : guardN t 0 e = false) :
    Calls Try.prog 65 #[.int .i64 t, .slice A n c, .int .i64 e] w fun r w' => r = .returned (.int .i64 0) ∧ Below w.heap.size w w' := by
  refine bound_bytes_not ?_
  simp only [guardN, Nat.zero_le, decide_true, Bool.and_true] at hg
  simp only [guardN]
  cases h1 : (decide (0 ≤ t) && decide (t ≤ 16)) <;> simp_all
end Go.Proofs.Ytdpbacmophaheaa
