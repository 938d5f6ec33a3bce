/- Contract: path.Total. -/
import Derived.Test.YtdpbacmophaheaaM7
namespace Go.Proofs.Ytdpbacmophaheaa
open Go.RowKit
attribute [local go_sem] Oper.semAt_some

def totN (n : Nat) : Nat := sumC n (depthN n)
/-- what the loop over the levels keeps -/
def TotI (w : World) (n b : Nat) (k : Nat) (W : World) : Prop :=
  W.heap[b]? = some (.cells #[.int .i64 n] 3 (0, 0)) ∧ W.heap[b + 1]? = some (.cells #[.int .i64 (sumC n k)] 3 (0, 0)) ∧ Below w.heap.size w W
theorem TotI.keep {w : World} {n b k : Nat} {W W' : World} (h : TotI w n b k W) (h0 : W'.heap[b]? = W.heap[b]?) (h1 : W'.heap[b + 1]? = W.heap[b + 1]?) (hb : Below w.heap.size w W') : TotI w n b k W' :=
  ⟨h0.trans h.1, h1.trans h.2.1, hb⟩

set_option maxRecDepth 100000 in
set_option maxHeartbeats 1000000 in
theorem path_total (w : World) (n : Nat) (h1 : 1 ≤ n) (h2 : n ≤ 4096) :
    Calls Try.prog 120 #[.int .i64 n] w fun e w' => e = .returned (.int .i64 (totN n)) ∧ Below w.heap.size w w' := by
  have HC := Lib.hid fun W l hl => path_count W n l h1 h2 hl
  have HSB := Lib.hid fun k => sumC_bd h2 k
  have HCB := Lib.hid fun l => cntN_bd (l := l) h2
  have hd := depthN_bd n
  refine (callsIn_wide (n := 3)).1 (callsIn_of_wp_marks Try.func120 rfl trivial ?_ rfl)
  simp only [Try.ntmps120, List.size_toArray, List.length_cons, List.length_nil, Nat.reduceAdd, Nat.reduceSub, Array.replicate_succ, Array.replicate_zero, List.push_toArray, List.append_toArray, List.nil_append, List.cons_append]
  gi_wp2_with (refine ⟨trivial, ?_⟩; gi_at_call 155; refine (callsIn_wide.2 (path_levels _ _)).mono ?_; rintro e w2 ⟨rfl, rfl⟩)
  obtain ⟨W0, hW0⟩ : ∃ W0, ((w.alloc (.cells #[.int .i64 n] 3)).alloc (.cells #[.int .i64 0] 3)).alloc (.cells #[.int .i64 n] 3) = W0 := ⟨_, rfl⟩
  have hs0 : w.heap.size + 3 ≤ W0.heap.size := by rw [← hW0]; simp
  have hbel : Below w.heap.size w W0 := by rw [← hW0]; exact (((Below.refl _ w).alloc (Nat.le_refl _) _).alloc (by simp) _).alloc (by simp; omega) _
  have hB0 : W0.heap[w.heap.size]? = some (.cells #[.int .i64 n] 3 (0, 0)) := by
    rw [← hW0]; exact (Below.heap_alloc _ _ _ (by simp; omega)).trans ((Below.heap_alloc _ _ _ (by simp)).trans (World.alloc_heap_new w _))
  have hB1 : W0.heap[w.heap.size + 1]? = some (.cells #[.int .i64 0] 3 (0, 0)) := by
    rw [← hW0]
    refine (Below.heap_alloc _ _ _ (by simp)).trans ?_
    have := World.alloc_heap_new (w.alloc (.cells #[.int .i64 n] 3)) (.cells #[.int .i64 0] 3)
    rwa [World.size_alloc] at this
  have hB2 : W0.heap[w.heap.size + 1 + 1]? = some (.cells #[.int .i64 n] 3 (0, 0)) := by
    rw [← hW0]
    have := World.alloc_heap_new ((w.alloc (.cells #[.int .i64 n] 3)).alloc (.cells #[.int .i64 0] 3)) (.cells #[.int .i64 n] 3)
    rwa [World.size_alloc, World.size_alloc] at this
  have HSEQ := Lib.hid (levels_seq (n₀ := w.heap.size + 3) (bx := w.heap.size + 1) h1 h2 (cell_of_one hB2) (by omega) (by omega) (by omega))
  have HI0 : Hid (TotI w n w.heap.size 0 W0) := Lib.hid ⟨hB0, hB1, hbel⟩
  have HDD : Hid (totN n = sumC n (depthN n)) := Lib.hid rfl
  rw [hW0]
  clear hW0 hB0 hB1 hB2 hbel
  refine wpIn_range_mem2 rfl (by omega) rfl trivial (enters_of Try.func171 (by kernel_rfl) rfl) HSEQ.out (by omega)
    (fun pre W => pre.length ≤ 6 ∧ TotI w n w.heap.size pre.length W)
    (fun s X Y hs hb => ⟨hs.1, hs.2.keep (hb.block _ (lt_of_block hs.2.1)) (hb.block _ (lt_of_block hs.2.2.1)) (hs.2.2.2.trans (hb.mono hs.2.2.2.size))⟩)
    (fun s W l o o' hs hl hlo ho => ⟨hs.1, hs.2.keep (World.putObj_heap_other (fun e => by rw [← e, hs.2.1] at hlo; cases hlo; cases ho)) (World.putObj_heap_other (fun e => by rw [← e, hs.2.2.1] at hlo; cases hlo; cases ho))
      (hs.2.2.2.trans ⟨rfl, rfl, rfl, by simp [World.putObj], fun k hk => World.putObj_heap_other (by omega)⟩)⟩)
    ⟨by simp, HI0.out⟩
    (fun _ x => { tmps := #[.int .i64 n, .pointer (some ⟨w.heap.size, 0, none⟩), .int .i64 0, .pointer (some ⟨w.heap.size + 1, 0, none⟩), .int .i64 x.1, .int .i64 x.2, .int .i64 n, .func (.func 171) #[] #[.pointer (some ⟨w.heap.size + 1 + 1, 0, none⟩)], .int .i64 x.1, .int .i64 x.2, undef, undef, undef, undef, undef, undef], defers := [] })
    (fun _ W => W) (fun _ W => Below.refl _ W) ?assign ?body ?done
  case assign =>
    intro l pre x W K hi hR hK
    dsimp only at hK ⊢
    clear hR hi
    gi_wp2
    exact hK
  case body =>
    rintro l pre x W o o' ⟨hp6, hi⟩ ⟨hpl, rfl⟩ hlo ho ho' hl
    obtain ⟨q0, q1, qb⟩ := hi
    have hll := (Array.getElem?_eq_some_iff.1 hlo).1
    obtain ⟨k, hk⟩ : ∃ k, pre.length = k := ⟨_, rfl⟩
    rw [hk] at hpl q1 hp6 ⊢
    rw [show (pre ++ [((k : Int) + 1, (sumC n k : Int))]).length = k + 1 by simp [hk]]
    obtain ⟨Wb, hWb⟩ : ∃ Wb, W.putObj l o' = Wb := ⟨_, rfl⟩
    have hblk : ∀ b, b < W.heap.size → b ≠ l → Wb.heap[b]? = W.heap[b]? := fun b hb hne => by rw [← hWb]; exact World.putObj_heap_other hne
    have b0 := (hblk _ (lt_of_block q0) (by omega)).trans q0
    have b1 := (hblk _ (lt_of_block q1) (by omega)).trans q1
    have hbb : Below w.heap.size w Wb := by
      rw [← hWb]
      exact qb.trans ⟨rfl, rfl, rfl, by simp [World.putObj], fun k hk => World.putObj_heap_other (by omega)⟩
    have hck := HC.out
    dsimp only
    rw [hWb]
    have c0 := cell_of_one b0
    have c1 := cell_of_one b1
    have f1 := free_of_one b1
    have l0 := lt_of_block b0
    have l1 := lt_of_block b1
    have hsb := HSB.out k
    have hcb := HCB.out (k + 1)
    have hk6 : k + 1 ≤ 6 := by omega
    have HK : Hid (∀ W, Calls Try.prog 156 #[.int .i64 n, .int .i64 ((k : Int) + 1)] W fun e w' => e = .returned (.int .i64 (cntN n (k + 1))) ∧ W = w') := Lib.hid fun W => by have := HC.out W (k + 1) (by omega); rwa [show ((k + 1 : Nat) : Int) = (k : Int) + 1 by omega] at this
    have HS : Hid (sumC n (k + 1) = sumC n k + cntN n (k + 1)) := Lib.hid rfl
    have HB0 := Lib.hid b0
    have HB1 := Lib.hid b1
    clear hck hk hpl q0 q1 qb b0 b1 hblk hWb hlo HC HSB HCB HI0 HSEQ
    generalize sumC n k = s at *
    generalize cntN n (k + 1) = q at *
    gi_wp2_with (refine ⟨trivial, ?_⟩; gi_at_call 156; refine (callsIn_wide.2 (HK.out _)).mono ?_; rintro e w4 ⟨rfl, rfl⟩)
    refine ⟨KeepsOthers.setCell _ _ _, Bx.setCell (p := ⟨w.heap.size + 1, 0, none⟩) _ _, hk6, (Below.heap_setCell _ _ _ _ (by simp)).trans HB0.out, ?_, hbb.setCell (by simp) _⟩
    rw [HS.out, Int.natCast_add]
    exact one_setCell HB1.out
  case done =>
    rintro D xs W hD hS ⟨hp6, hi⟩ hK
    obtain ⟨q0, q1, qb⟩ := hi
    rw [hS] at q1
    have c1 := cell_of_one q1
    have l1 := lt_of_block q1
    have HQ := Lib.hid hK
    clear hS q0 hK q1
    gi_wp2
    refine ⟨by simp, .inl ⟨_, _, rfl, run_takeDeferred HQ.out, ?_⟩⟩
    refine ⟨_, results_tmp rfl _ _ _, by rw [HDD.out]; rfl, ?_⟩
    exact qb.trans ⟨rfl, rfl, rfl, by simp [World.putObj], fun k hk => World.putObj_heap_other (by omega)⟩
end Go.Proofs.Ytdpbacmophaheaa
