/- Contracts for the laws on bounds: sums; what a commit, a format, a mount cost. -/
import Derived.Test.YtdpbacmophaheaaM4
namespace Go.Proofs.Ytdpbacmophaheaa
open Go.RowKit

theorem sum_take_succ {l : List Int} {k : Nat} (hk : k < l.length) : (l.take (k + 1)).sum = (l.take k).sum + l[k] := by
  rw [List.take_succ_eq_append_getElem hk, List.sum_append]; simp
theorem sum_take_bd {l : List Int} {B : Int} (hB : 0 ≤ B) (h : ∀ x ∈ l, 0 ≤ x ∧ x ≤ B) (k : Nat) : 0 ≤ (l.take k).sum ∧ (l.take k).sum ≤ k * B := by
  induction k with
  | zero => simp
  | succ k ih =>
    have e : ((k + 1 : Nat) : Int) * B = (k : Int) * B + B := by rw [Int.natCast_add, Int.add_mul]; simp
    by_cases hk : k < l.length
    · have := h l[k] (List.getElem_mem hk)
      rw [sum_take_succ hk]; omega
    · rw [List.take_of_length_le (by omega)] at ih ⊢; omega
/-- a literal's block, as a slice -/
theorem Sl.ints {w : World} {g : Nat} {t : TypeId} {fr : Nat × Nat} (cs : List Int) (h : w.heap[g]? = some (.cells (cs.map (Value.int .i64)).toArray t fr)) (hw : ∀ x ∈ cs, -9223372036854775808 ≤ x ∧ x ≤ 9223372036854775807) (hl : cs.length ≤ 1000) : Sl Enc.i64 w (fun _ => True) (some ⟨g, 0, none⟩) cs.length cs.length cs := by
  refine ⟨rfl, Nat.le_refl _, ⟨by omega, fun h => by cases h⟩, fun i x hx => ⟨_, [.int .i64 x], rfl, trivial, ⟨rfl, WalkArith.wf_i64 (hw x (List.mem_of_getElem? hx))⟩, fun j u hu => ?_⟩⟩
  have hj : j = 0 := by have := (List.getElem?_eq_some_iff.1 hu).1; simp at this; exact this
  subst hj
  simp at hu
  subst hu
  have : (⟨g, 0, none⟩ : Addr).add (i * 1 + 0) = ⟨g, i, none⟩ := by rw [Nat.mul_one, Nat.add_zero, add_plain]
  show w.cell? ((⟨g, 0, none⟩ : Addr).add (i * 1 + 0)) = _
  rw [this]
  simp [World.cell?, h, hx]

section
variable {w : World} {F G : Nat → Prop} {A B : Option Addr} {n c m d : Nat}
set_option maxHeartbeats 400000 in
theorem bound_sum {l : List Int} (h : Sl Enc.i64 w F A n c l) (hb : ∀ x ∈ l, 0 ≤ x ∧ x ≤ 1000000000) (hn : n ≤ 1000) :
    Calls Try.prog 118 #[.slice A n c] w fun e w' => e = .returned (.int .i64 l.sum) ∧ w = w' := by
  have hln := h.len
  have HB := Lib.hid fun k => sum_take_bd (by omega) hb k
  have HD : Hid (l.take n = l) := Lib.hid (List.take_of_length_le (by omega))
  have HM := Lib.hid hb
  clear hb hln
  go_enter Try.func118, Try.ntmps118
  go_wp2
  go_loop [3, 8] (fun s i => ∃ k : Nat, k ≤ n ∧ i = .int .i64 k ∧ s = .int .i64 (l.take k).sum) (fun _ i => n - (intOf i).toNat)
  case atStart => exact ⟨0, by omega, by simp, by simp⟩
  case round =>
    obtain ⟨k, hk, rfl, rfl⟩ := hrel
    have hbk := HB.out k
    by_cases hlt : k < n
    · have hka := h.lt hlt
      obtain ⟨ad, rfl, -, hca⟩ := h.int k hka
      have HS := Lib.hid (sum_take_succ hka)
      have hxb := HM.out l[k] (List.getElem_mem hka)
      obtain ⟨x, hx⟩ : ∃ x, l[k] = x := ⟨_, rfl⟩
      rw [hx] at hca HS hxb
      generalize (l.take k).sum = s at *
      have HH := Lib.hid h
      clear h hx
      go_wp2
      go_round
      case rel => exact ⟨k + 1, by omega, by go_num, by rw [HS.out]⟩
      case measure => simp [intOf]; omega
    · have hkn : k = n := by omega
      subst hkn
      go_wp2
      go_ret
      exact ⟨ret_int (by rw [HD.out]), rfl⟩
end

set_option maxHeartbeats 400000 in
theorem law_steps (w : World) (n s : Int) (hk : sizeOk n s = true) :
    Calls Try.prog 60 #[.int .i64 n, .int .i64 s] w fun e w' => e = .returned (.int .i64 (sizeN n s + n + 4)) ∧ w = w' := by
  simp only [sizeOk, Bool.and_eq_true, decide_eq_true_eq] at hk
  obtain ⟨⟨h0, h1⟩, hw⟩ := hk
  have hs : 64 ≤ s ∧ s ≤ 256 := by simp only [wideB, Bool.and_eq_true, decide_eq_true_eq] at hw; exact hw.1
  have hb := index_bd h0 h1 hs.1
  have hz : sizeN n s = 1 + indexN n s + n := rfl
  obtain ⟨hb1, hb2⟩ : 0 ≤ sizeN n s ∧ sizeN n s ≤ 80000 := by omega
  obtain ⟨hs1, hs2⟩ := hs
  clear hz hb hw
  go_enter Try.func60, Try.ntmps60
  go_wp2_with (go_at_call 18; refine (ref_size _ _ _ h0 h1 hs1 hs2).mono ?_; rintro e w1 ⟨rfl, rfl⟩)
  go_ret
  exact ⟨rfl, rfl⟩

set_option maxHeartbeats 1000000 in
theorem super_lay_not (w : World) (a b c d : Int) (hg : geomB a b c d = false) :
    Calls Try.prog 31 #[.agg #[.int .i64 a, .int .i64 b, .int .i64 c, .int .i64 d]] w fun e w' => e = .returned (.tuple #[.agg #[.int .i64 0, .int .i64 0, .int .i64 0, .int .i64 0, .int .i64 0, .int .i64 0, .int .i64 0, .int .i64 0, .int .i64 0], .bool false]) ∧ Below w.heap.size w w' := by
  have HG := Lib.hid hg
  clear hg
  go_enter Try.func31, Try.ntmps31
  go_wp2_with fail
  refine (super_right _ _ _ _ _ HG.out).mono ?_
  rintro e w1 ⟨rfl, hb1⟩
  obtain ⟨hc, hf⟩ := bcell hb1
  have hs1 := hb1.size
  simp only [World.size_alloc] at hs1
  go_wp2
  refine bodyPost_ret (v := .tuple #[.agg #[.int .i64 0, .int .i64 0, .int .i64 0, .int .i64 0, .int .i64 0, .int .i64 0, .int .i64 0, .int .i64 0, .int .i64 0], .bool false]) (by simp [results, Try.results31, go_sem, hc]) rfl ⟨rfl, ?_⟩
  iterate 9 refine Below.setCell ?_ (by simp) _
  exact (((Below.refl _ _).alloc (Nat.le_refl _) _).alloc (by simp) _).trans (hb1.mono (by simp; omega))

def metaB (a b c d : Int) : Int := if geomB a b c d then metaS a b c d else 0
set_option maxHeartbeats 1000000 in
theorem bound_meta (w : World) (a b c d : Int) :
    Calls Try.prog 115 #[.agg #[.int .i64 a, .int .i64 b, .int .i64 c, .int .i64 d]] w fun e w' => e = .returned (.int .i64 (metaB a b c d)) ∧ Below w.heap.size w w' := by
  cases hg : geomB a b c d
  · have HG := Lib.hid hg
    have HM : Hid (metaB a b c d = 0) := Lib.hid (by simp [metaB, hg])
    clear hg
    go_enter Try.func115, Try.ntmps115
    go_wp2_with fail
    refine (super_lay_not _ _ _ _ _ HG.out).mono ?_
    rintro e w1 ⟨rfl, hb1⟩
    go_wp2
    go_ret
    exact ⟨ret_int (by rw [HM.out]), (((Below.refl _ _).alloc (Nat.le_refl _) _).trans (hb1.mono (by simp))).alloc (by have := hb1.size; simp at this; omega) _⟩
  · have HG := Lib.hid hg
    have HM : Hid (metaB a b c d = metaS a b c d) := Lib.hid (by simp [metaB, hg])
    have HV := Lib.hid (super_lay w a b c d hg)
    clear hg
    go_enter Try.func115, Try.ntmps115
    go_wp2_with fail
    refine (super_lay _ _ _ _ _ HG.out).mono ?_
    rintro e w1 ⟨rfl, hb1⟩
    unfold layV
    generalize sizeN (metaS a b c d + 1) a = z at *
    go_wp2
    go_ret
    exact ⟨ret_int (by rw [HM.out]), (((Below.refl _ _).alloc (Nat.le_refl _) _).trans (hb1.mono (by simp))).alloc (by have := hb1.size; simp at this; omega) _⟩
end Go.Proofs.Ytdpbacmophaheaa
