/- Contracts for the laws on bounds: where the parts of a volume lie. -/
import Derived.Test.YtdpbacmophaheaaM3
import Derived.Test.YtdpbacmophaheaaQ
namespace Go.Proofs.Ytdpbacmophaheaa
open Go.RowKit

set_option maxHeartbeats 1000000 in
theorem super_meta (w : World) (a b c d : Int) (hg : geomB a b c d = true) :
    Calls Try.prog 32 #[.agg #[.int .i64 a, .int .i64 b, .int .i64 c, .int .i64 d]] w fun e w' => e = .returned (.int .i64 (metaN b c d)) ∧ Below w.heap.size w w' := by
  obtain ⟨-, h1, h2, h3, h4, h5, h6, h7, h8⟩ := geomB_in hg
  have HG := Lib.hid hg
  clear hg
  go_enter Try.func32, Try.ntmps32
  go_wp2_with fail
  refine (super_right _ _ _ _ _ HG.out).mono ?_
  rintro e w1 ⟨rfl, hb1⟩
  obtain ⟨hc, hf⟩ := bcell hb1
  go_wp2
  go_ret
  exact ⟨rfl, ((Below.refl _ _).alloc (Nat.le_refl _) _).trans (hb1.mono (by simp))⟩
set_option maxHeartbeats 1000000 in
theorem lay_part {at_ n : Int} {w : World} {b : Nat} (hb : w.heap[b]? = some (.cells #[.int .i64 at_] 3)) (hs : -1000000 ≤ at_ + n) (hs' : at_ + n ≤ 1000000) :
    Calls Try.prog 97 #[.int .i64 n, .pointer (some ⟨b, 0, none⟩)] w fun e w' => e = .returned (.agg #[.int .i64 at_, .int .i64 n]) ∧ w'.heap[b]? = some (.cells #[.int .i64 (at_ + n)] 3) ∧ Ch b w w' := by
  have hc : w.cell? ⟨b, 0, none⟩ = some (.int .i64 at_) := cell_of_one hb
  have hf := free_of_one hb
  have hl := lt_of_block hb
  have HB := Lib.hid hb
  clear hb
  go_enter Try.func97, Try.ntmps97
  go_wp2
  refine bodyPost_ret (v := .agg #[.int .i64 at_, .int .i64 n]) (by simp [results, Try.results97, go_sem]) rfl ⟨rfl, ?_, ?_⟩
  · rw [Below.heap_alloc _ _ _ (by simp [World.setCell]; omega), Below.heap_alloc _ _ _ (by simp [World.setCell]; omega)]
    exact one_setCell HB.out
  · exact (((Ch.refl b w).setCell rfl _).alloc _).alloc _

/-- at block b lies what part adds to; all else stays -/
structure AtB (b : Nat) (x : Int) (w : World) : Prop where
  blk : w.heap[b]? = some (.cells #[.int .i64 x] 3)
theorem ccell {b : Nat} {W w1 : World} (h : Ch b W w1) : (∀ k o, k < W.heap.size → k ≠ b → w1.cell? ⟨k, o, none⟩ = W.cell? ⟨k, o, none⟩) ∧ (∀ k o, k < W.heap.size → k ≠ b → w1.frozen? ⟨k, o, none⟩ = W.frozen? ⟨k, o, none⟩) :=
  ⟨fun k o hk hb => World.cell?_of_block (h.block k hk hb), fun k o hk hb => by simp only [World.frozen?, h.block k hk hb]⟩

def layV (a b c d : Int) : Value := .agg #[.int .i64 0, .int .i64 2, .int .i64 2, .int .i64 (sizeN (metaS a b c d + 1) a), .int .i64 (2 + sizeN (metaS a b c d + 1) a), .int .i64 (metaS a b c d), .int .i64 (2 + sizeN (metaS a b c d + 1) a + metaS a b c d), .int .i64 d, .int .i64 (2 + sizeN (metaS a b c d + 1) a + metaS a b c d + d)]
set_option maxHeartbeats 4000000 in
theorem super_lay (w : World) (a b c d : Int) (hg : geomB a b c d = true) :
    Calls Try.prog 31 #[.agg #[.int .i64 a, .int .i64 b, .int .i64 c, .int .i64 d]] w fun e w' => e = .returned (.tuple #[layV a b c d, .bool true]) ∧ Below w.heap.size w w' := by
  have HV : Hid (layV a b c d = .agg #[.int .i64 0, .int .i64 2, .int .i64 2, .int .i64 (sizeN (metaS a b c d + 1) a), .int .i64 (2 + sizeN (metaS a b c d + 1) a), .int .i64 (metaS a b c d), .int .i64 (2 + sizeN (metaS a b c d + 1) a + metaS a b c d), .int .i64 d, .int .i64 (2 + sizeN (metaS a b c d + 1) a + metaS a b c d + d)]) := Lib.hid rfl
  obtain ⟨hw, h1, h2, h3, h4, h5, h6, h7, h8⟩ := geomB_in hg
  have HG := Lib.hid hg
  clear hg
  go_enter Try.func31, Try.ntmps31
  go_wp2_with fail
  obtain ⟨wA, hwA⟩ : ∃ wA, wA = (w.alloc (.cells #[.int .i64 a, .int .i64 b, .int .i64 c, .int .i64 d] 48)).alloc (.cells #[.int .i64 0, .int .i64 0, .int .i64 0, .int .i64 0, .int .i64 0, .int .i64 0, .int .i64 0, .int .i64 0, .int .i64 0] 59) := ⟨_, rfl⟩
  rw [← hwA]
  have hbA : Below w.heap.size w wA := by rw [hwA]; exact ((Below.refl _ w).alloc (Nat.le_refl _) _).alloc (by simp) _
  have hsA : w.heap.size + 1 < wA.heap.size := by rw [hwA]; simp
  have c0 : wA.cell? ⟨w.heap.size, 0, none⟩ = some (.int .i64 a) := by rw [hwA]; simp
  have c1 : wA.cell? ⟨w.heap.size, 1, none⟩ = some (.int .i64 b) := by rw [hwA]; simp
  have c2 : wA.cell? ⟨w.heap.size, 2, none⟩ = some (.int .i64 c) := by rw [hwA]; simp
  have c3 : wA.cell? ⟨w.heap.size, 3, none⟩ = some (.int .i64 d) := by rw [hwA]; simp
  have hr : wA.heap[w.heap.size + 1]? = some (.cells #[.int .i64 0, .int .i64 0, .int .i64 0, .int .i64 0, .int .i64 0, .int .i64 0, .int .i64 0, .int .i64 0, .int .i64 0] 59) := by
    rw [hwA, show w.heap.size + 1 = (w.alloc (.cells #[.int .i64 a, .int .i64 b, .int .i64 c, .int .i64 d] 48)).heap.size by simp]; exact heap_alloc_new _ _
  have HBA := Lib.hid hbA
  have HRA := Lib.hid hr
  clear hwA hbA hr
  refine (super_right _ _ _ _ _ HG.out).mono ?_
  rintro e w1 ⟨rfl, hb1⟩
  have hs1 := hb1.size
  replace c0 := bc hb1 c0
  replace c1 := bc hb1 c1
  replace c2 := bc hb1 c2
  replace c3 := bc hb1 c3
  go_wp2
  obtain ⟨w2, hw2⟩ : ∃ w2, w2 = w1.alloc (.cells #[.int .i64 0] 3) := ⟨_, rfl⟩
  have hb2 : Below w1.heap.size w1 w2 := by rw [hw2]; exact (Below.refl _ _).alloc (Nat.le_refl _) _
  have hp2 : w2.heap[w1.heap.size]? = some (.cells #[.int .i64 0] 3) := by rw [hw2]; exact heap_alloc_new w1 _
  rw [← hw2]
  clear hw2
  replace c0 := bc hb2 c0
  replace c1 := bc hb2 c1
  replace c2 := bc hb2 c2
  replace c3 := bc hb2 c3
  have HM := Lib.hid fun W => super_meta W a b c d HG.out
  have hN1 : 0 ≤ metaN b c d ∧ metaN b c d ≤ 500000 := by unfold metaN; omega
  have HS : Hid (metaS a b c d = (metaN b c d + 4 + a - 1) / a) := Lib.hid rfl
  have hsb := upN_bd (N := metaN b c d + 4) (a := a) (by omega) (by omega) h1
  have hsp := upN_pos (N := metaN b c d + 4) (a := a) (by omega) (by omega)
  have hS1 : 1 ≤ metaS a b c d ∧ metaS a b c d ≤ 9376 := by unfold metaS; omega
  clear hsb hsp
  generalize metaN b c d = N at *
  have e1 : IntKind.i64.wrap (N + 4) = N + 4 := IntWalk.i64_in _ (by omega)
  have e2 : IntKind.i64.wrap (N + 4 + a) = N + 4 + a := IntWalk.i64_in _ (by omega)
  have e3 : IntKind.i64.wrap (N + 4 + a - 1) = N + 4 + a - 1 := IntWalk.i64_in _ (by omega)
  have e4 : (a == 0) = false := by simp; omega
  have e6 : (a = 0) = False := by simp; omega
  have e5 : IntKind.i64.wrap ((N + 4 + a - 1).tdiv a) = metaS a b c d := by rw [Int.tdiv_eq_ediv_of_nonneg (by omega), HS.out]; exact IntWalk.i64_in _ (by rw [← HS.out]; omega)
  (refine wp_region_quietC (fun W => Below (World.heap w2).size w2 W) (by kernel_rfl) (by kernel_rfl) (below_of_drewN w2 1) ?_; (repeat (refine wpQuiet_step (fun KQ hKQ => ?_); go_simp; first | (refine hKQ _ ?_; clear hKQ KQ) | (refine ⟨_, fun _ _ => rfl, hKQ _ ?_⟩; clear hKQ KQ) | (apply Exists.intro; refine ⟨?_, hKQ _ ?_⟩; (intro W hW; first | (go_at_call 32; exact (HM.out W).mono fun e w' h => ⟨h.1, below_then hW hW.size h.2⟩) | (simp only [bc hW c0, bc hW c1, bc hW c2, bc hW c3, Result.andThen_ok]; exact ⟨trivial, rfl⟩)); clear hKQ KQ))); refine wpQuiet_nil ?_)
  intro w3 hb3
  replace c0 := bc hb3 c0
  replace c3 := bc hb3 c3
  have hp3 := (hb3.block _ (lt_of_block hp2)).trans hp2
  have hok : sizeOk (metaS a b c d + 1) a = true := by simp [sizeOk, hw]; omega
  have hz := index_bd (n := metaS a b c d + 1) (s := a) (by omega) (by omega) h1
  have hz2 : 0 ≤ sizeN (metaS a b c d + 1) a ∧ sizeN (metaS a b c d + 1) a ≤ 20000 := by unfold sizeN; omega
  clear e1 e2 e3 e4 e5 e6 hz hw c1 c2
  obtain ⟨p, hpe⟩ : ∃ p, p = w1.heap.size := ⟨_, rfl⟩
  rw [← hpe] at hp3 ⊢
  have hpg : w.heap.size + 1 < p := by omega
  have hpA : wA.heap.size ≤ p := by omega
  have HB3 : Hid (Ch p wA w3) := Lib.hid (((Ch.of_below hb1).trans (.of_below hb2)).trans (.of_below hb3))
  have HOK := Lib.hid hok
  clear hb1 hb2 hb3 hpe hp2 hok hs1
  go_wp2_with (go_at_call 16; refine (journal_size _ _ _ HOK.out).mono ?_; rintro e w' ⟨rfl, rfl⟩)
  generalize sizeN (metaS a b c d + 1) a = z at *
  generalize metaS a b c d = s at *
  refine (lay_part hp3 (by omega) (by omega)).mono ?_
  rintro e w4 ⟨rfl, hp4, hch4⟩
  simp only [Int.zero_add] at hp4
  replace c0 := (hch4.cell (Bc.of_cell c0).lt (by simp; omega)).trans c0
  replace c3 := (hch4.cell (Bc.of_cell c3).lt (by simp; omega)).trans c3
  have HB4 := Lib.hid (HB3.out.trans hch4)
  have hq0 : p < w4.heap.size := lt_of_block hp4
  clear hp3 hch4
  go_wp2_with fail
  -- the layout's block
  obtain ⟨q, hq⟩ : ∃ q, w4.heap.size = q := ⟨_, rfl⟩
  obtain ⟨w5, hw5⟩ : ∃ w5, w5 = w4.alloc (.cells #[.int .i64 0, .int .i64 2, .int .i64 0, .int .i64 0, .int .i64 0, .int .i64 0, .int .i64 0, .int .i64 0, .int .i64 0] 59) := ⟨_, rfl⟩
  have hb5 : Below w4.heap.size w4 w5 := by rw [hw5]; exact (Below.refl _ _).alloc (Nat.le_refl _) _
  have hq5 : w5.heap[q]? = some (.cells #[.int .i64 0, .int .i64 2, .int .i64 0, .int .i64 0, .int .i64 0, .int .i64 0, .int .i64 0, .int .i64 0, .int .i64 0] 59) := by rw [hw5, ← hq]; exact heap_alloc_new w4 _
  rw [← hw5, hq]
  clear hw5
  replace c0 := bc hb5 c0
  replace c3 := bc hb5 c3
  have hp5 := (hb5.block _ hq0).trans hp4
  have HB5 := Lib.hid (HB4.out.trans (.of_below hb5))
  have hpq : p < q := by omega
  clear hp4 hb5 HB4 HB3 hq hq0
  refine (lay_part hp5 (by omega) (by omega)).mono ?_
  rintro e w6 ⟨rfl, hp6, hch6⟩
  replace c0 := (hch6.cell (Bc.of_cell c0).lt (by simp; omega)).trans c0
  replace c3 := (hch6.cell (Bc.of_cell c3).lt (by simp; omega)).trans c3
  have hq6 := (hch6.block _ (lt_of_block hq5) (by omega)).trans hq5
  have HB6 := Lib.hid (HB5.out.trans hch6)
  have f2 : w6.frozen? ⟨q, 2, none⟩ = false := by simp [World.frozen?, hq6]
  have f3 : w6.frozen? ⟨q, 3, none⟩ = false := by simp [World.frozen?, hq6]
  have g2 : w6.cell? ⟨q, 2, none⟩ = some (.int .i64 0) := by simp [World.cell?, hq6]
  have g3 : w6.cell? ⟨q, 3, none⟩ = some (.int .i64 0) := by simp [World.cell?, hq6]
  clear hp5 hq5 HB5 hch6
  go_wp2_with fail
  clear f2 f3 g2 g3
  obtain ⟨w7, hw7⟩ : ∃ W, W = (w6.setCell ⟨q, 2, none⟩ (.int .i64 (2))).setCell ⟨q, 3, none⟩ (.int .i64 (z)) := ⟨_, rfl⟩
  have k7 : Ch q w6 w7 := by rw [hw7]; exact ((Ch.refl q w6).setCell rfl _).setCell rfl _
  have hq7 : w7.heap[q]? = some (.cells #[.int .i64 0, .int .i64 2, .int .i64 2, .int .i64 z, .int .i64 0, .int .i64 0, .int .i64 0, .int .i64 0, .int .i64 0] 59) := by
    rw [hw7]
    have := blk_setCell (blk_setCell hq6 (.int .i64 (2)) (j := 2)) (.int .i64 (z)) (j := 3)
    simpa using this
  have hp7 := (k7.block p (lt_of_block hp6) (by omega)).trans hp6
  rw [← hw7]
  clear hw7
  replace c0 := (k7.cell (Bc.of_cell c0).lt (by simp; omega)).trans c0
  replace c3 := (k7.cell (Bc.of_cell c3).lt (by simp; omega)).trans c3
  have HB7 := Lib.hid (HB6.out.other (by omega) k7)
  clear k7 hq6 hp6 HB6
  refine (lay_part hp7 (by omega) (by omega)).mono ?_
  rintro e w8 ⟨rfl, hp8, hch8⟩
  replace c0 := (hch8.cell (Bc.of_cell c0).lt (by simp; omega)).trans c0
  replace c3 := (hch8.cell (Bc.of_cell c3).lt (by simp; omega)).trans c3
  have hq8 := (hch8.block _ (lt_of_block hq7) (by omega)).trans hq7
  have HB8 := Lib.hid (HB7.out.trans hch8)
  have f2 : w8.frozen? ⟨q, 4, none⟩ = false := by simp [World.frozen?, hq8]
  have f3 : w8.frozen? ⟨q, 5, none⟩ = false := by simp [World.frozen?, hq8]
  have g2 : w8.cell? ⟨q, 4, none⟩ = some (.int .i64 0) := by simp [World.cell?, hq8]
  have g3 : w8.cell? ⟨q, 5, none⟩ = some (.int .i64 0) := by simp [World.cell?, hq8]
  clear hp7 hq7 HB7 hch8
  go_wp2_with fail
  clear f2 f3 g2 g3
  obtain ⟨w9, hw9⟩ : ∃ W, W = (w8.setCell ⟨q, 4, none⟩ (.int .i64 (2 + z))).setCell ⟨q, 5, none⟩ (.int .i64 (s)) := ⟨_, rfl⟩
  have k9 : Ch q w8 w9 := by rw [hw9]; exact ((Ch.refl q w8).setCell rfl _).setCell rfl _
  have hq9 : w9.heap[q]? = some (.cells #[.int .i64 0, .int .i64 2, .int .i64 2, .int .i64 z, .int .i64 (2 + z), .int .i64 s, .int .i64 0, .int .i64 0, .int .i64 0] 59) := by
    rw [hw9]
    have := blk_setCell (blk_setCell hq8 (.int .i64 (2 + z)) (j := 4)) (.int .i64 (s)) (j := 5)
    simpa using this
  have hp9 := (k9.block p (lt_of_block hp8) (by omega)).trans hp8
  rw [← hw9]
  clear hw9
  replace c0 := (k9.cell (Bc.of_cell c0).lt (by simp; omega)).trans c0
  replace c3 := (k9.cell (Bc.of_cell c3).lt (by simp; omega)).trans c3
  have HB9 := Lib.hid (HB8.out.other (by omega) k9)
  clear k9 hq8 hp8 HB8
  refine (lay_part hp9 (by omega) (by omega)).mono ?_
  rintro e w10 ⟨rfl, hp10, hch10⟩
  have hq10 := (hch10.block _ (lt_of_block hq9) (by omega)).trans hq9
  have hs9 := HB9.out.size
  have hr10 := (((HB9.out.trans hch10).block _ hsA (by omega))).trans HRA.out
  have HB10 := Lib.hid (HB9.out.trans hch10)
  have hsq : q < w10.heap.size := lt_of_block hq10
  have f6 : w10.frozen? ⟨q, 6, none⟩ = false := by simp [World.frozen?, hq10]
  have f7 : w10.frozen? ⟨q, 7, none⟩ = false := by simp [World.frozen?, hq10]
  have f8 : w10.frozen? ⟨q, 8, none⟩ = false := by simp [World.frozen?, hq10]
  have g0 : w10.cell? ⟨q, 0, none⟩ = some (.int .i64 0) := by simp [World.cell?, hq10]
  have g1 : w10.cell? ⟨q, 1, none⟩ = some (.int .i64 2) := by simp [World.cell?, hq10]
  have g2 : w10.cell? ⟨q, 2, none⟩ = some (.int .i64 2) := by simp [World.cell?, hq10]
  have g3 : w10.cell? ⟨q, 3, none⟩ = some (.int .i64 z) := by simp [World.cell?, hq10]
  have g4 : w10.cell? ⟨q, 4, none⟩ = some (.int .i64 (2 + z)) := by simp [World.cell?, hq10]
  have g5 : w10.cell? ⟨q, 5, none⟩ = some (.int .i64 s) := by simp [World.cell?, hq10]
  have g6 : w10.cell? ⟨q, 6, none⟩ = some (.int .i64 0) := by simp [World.cell?, hq10]
  have g7 : w10.cell? ⟨q, 7, none⟩ = some (.int .i64 0) := by simp [World.cell?, hq10]
  have g8 : w10.cell? ⟨q, 8, none⟩ = some (.int .i64 0) := by simp [World.cell?, hq10]
  have u0 : w10.frozen? ⟨w.heap.size + 1, 0, none⟩ = false := by simp [World.frozen?, hr10]
  have v0 : w10.cell? ⟨w.heap.size + 1, 0, none⟩ = some (.int .i64 0) := by simp [World.cell?, hr10]
  have u1 : w10.frozen? ⟨w.heap.size + 1, 1, none⟩ = false := by simp [World.frozen?, hr10]
  have v1 : w10.cell? ⟨w.heap.size + 1, 1, none⟩ = some (.int .i64 0) := by simp [World.cell?, hr10]
  have u2 : w10.frozen? ⟨w.heap.size + 1, 2, none⟩ = false := by simp [World.frozen?, hr10]
  have v2 : w10.cell? ⟨w.heap.size + 1, 2, none⟩ = some (.int .i64 0) := by simp [World.cell?, hr10]
  have u3 : w10.frozen? ⟨w.heap.size + 1, 3, none⟩ = false := by simp [World.frozen?, hr10]
  have v3 : w10.cell? ⟨w.heap.size + 1, 3, none⟩ = some (.int .i64 0) := by simp [World.cell?, hr10]
  have u4 : w10.frozen? ⟨w.heap.size + 1, 4, none⟩ = false := by simp [World.frozen?, hr10]
  have v4 : w10.cell? ⟨w.heap.size + 1, 4, none⟩ = some (.int .i64 0) := by simp [World.cell?, hr10]
  have u5 : w10.frozen? ⟨w.heap.size + 1, 5, none⟩ = false := by simp [World.frozen?, hr10]
  have v5 : w10.cell? ⟨w.heap.size + 1, 5, none⟩ = some (.int .i64 0) := by simp [World.cell?, hr10]
  have u6 : w10.frozen? ⟨w.heap.size + 1, 6, none⟩ = false := by simp [World.frozen?, hr10]
  have v6 : w10.cell? ⟨w.heap.size + 1, 6, none⟩ = some (.int .i64 0) := by simp [World.cell?, hr10]
  have u7 : w10.frozen? ⟨w.heap.size + 1, 7, none⟩ = false := by simp [World.frozen?, hr10]
  have v7 : w10.cell? ⟨w.heap.size + 1, 7, none⟩ = some (.int .i64 0) := by simp [World.cell?, hr10]
  have u8 : w10.frozen? ⟨w.heap.size + 1, 8, none⟩ = false := by simp [World.frozen?, hr10]
  have v8 : w10.cell? ⟨w.heap.size + 1, 8, none⟩ = some (.int .i64 0) := by simp [World.cell?, hr10]
  have gp : w10.cell? ⟨p, 0, none⟩ = some (.int .i64 (2 + z + s + d)) := cell_of_one hp10
  have hqr : ¬ q = w.heap.size + 1 := by omega
  have hqr' : ¬ w.heap.size + 1 = q := by omega
  have hpq1 : ¬ p = q := by omega
  have hpq2 : ¬ q = p := by omega
  have hpr1 : ¬ p = w.heap.size + 1 := by omega
  have hpr2 : ¬ w.heap.size + 1 = p := by omega
  have HP10 := Lib.hid hp10
  clear hp9 hq9 hch10 hq10 hr10 hp10 HB9
  go_wp2
  refine bodyPost_ret (v := .tuple #[layV a b c d, .bool true]) (by rw [HV.out]; simp [results, Try.results31, go_sem, v0, v1, v2, v3, v4, v5, v6, v7, v8]) rfl ⟨rfl, ?_⟩
  have HBel : Below w.heap.size w w10 := HBA.out.trans (HB10.out.below (by omega) (by omega))
  iterate 12 refine Below.setCell ?_ (by simp <;> omega) _
  exact HBel
end Go.Proofs.Ytdpbacmophaheaa
