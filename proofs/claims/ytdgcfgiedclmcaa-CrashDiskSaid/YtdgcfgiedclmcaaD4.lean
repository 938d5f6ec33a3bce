/- Contract: crash.Outcomes, whole; the chapter's example. -/
import Derived.Test.YtdgcfgiedclmcaaD3
namespace Go.Proofs.Ytdgcfgiedclmcaa
open Go.RowKit

section
variable {w : World} {F G H : Nat → Prop} {A B D : Option Addr} {n c m d : Nat}
set_option maxHeartbeats 400000 in
theorem outcomes_any {im : List (List Int)} {ws : List Entry} (h : Sl Enc.bytes w F A n c im) (g : Sl Enc.entry w G B m d ws)
    (hn : n ≤ 4096) (hi : ∀ x ∈ im, x.length ≤ 4096) (hw : ∀ x ∈ ws, x.2.length ≤ 4096) :
    Calls Try.prog 14 #[.slice A n c, .slice B m d] w fun e w' => Below w.heap.size w w' ∧ ∃ A' n' c', e = .returned (.tuple #[.slice A' n' c', .int .i64 (outE im ws)]) ∧
      Sl (Enc.slice Enc.bytes) w' (fun _ => True) A' n' c' (outR im ws) := by
  have hln := h.len
  have hlm := g.len
  by_cases h0 : mayE n ws = 0
  · by_cases hm : m ≤ 10
    · have e1 : outE im ws = 0 := by simp only [outE, hln, h0, hlm, if_true]; rw [if_neg (by omega)]
      have e2 : outR im ws = outTo ws im (2 ^ m) := by simp only [outR, e1, hlm, if_true]
      rw [e1, e2]
      exact (outcomes_few h g h0 hm hn hi hw).mono fun e w' ⟨hb, A', c', he, hs⟩ => ⟨hb, A', _, c', he, hs⟩
    · have e1 : Hid (outE im ws = 3) := Lib.hid (by simp only [outE, hln, h0, hlm, if_true]; rw [if_pos (by omega)])
      have e2 : outR im ws = [] := by simp only [outR, e1.out]; rfl
      rw [e1.out, e2]
      have HM := Lib.hid (may_any (s := (n : Int)) g)
      rw [h0] at HM
      clear h g h0 e1 e2 hi hw
      go_enter Try.func14, Try.ntmps14
      go_wp2_with fail
      refine HM.out.mono ?_
      rintro e w1 ⟨rfl, hd1⟩
      go_wp2
      go_ret2
      exact ⟨hd1, _, _, _, rfl, Sl.nil _ _ _⟩
  · have e1 : Hid (outE im ws = mayE n ws) := Lib.hid (by simp only [outE, hln, h0, if_false])
    have e2 : outR im ws = [] := by simp only [outR, e1.out, h0, if_false]
    rw [e1.out, e2]
    have HM := Lib.hid (may_any (s := (n : Int)) g)
    have hne : ((mayE n ws) != 0) = true := by simpa using h0
    clear h g h0 e1 e2 hi hw
    generalize mayE n ws = r at *
    go_enter Try.func14, Try.ntmps14
    go_wp2_with fail
    refine HM.out.mono ?_
    rintro e w1 ⟨rfl, hd1⟩
    go_wp2
    go_ret2
    exact ⟨hd1, _, _, _, rfl, Sl.nil _ _ _⟩
end

/-- a literal of one element -/
theorem Sl.lit1 {α : Type} {e : Enc α} {w : World} {F : Nat → Prop} {E : TypeId} {cs : List Value} {y : α} {b : Nat} (hb : w.heap[b]? = some (.cells cs.toArray E (0, 0))) (hF : F b) (h : e.rel w F cs y) : Sl e w F (some ⟨b, 0, none⟩) 1 1 [y] := by
  refine ⟨rfl, by omega, ⟨by omega, fun h => by cases h⟩, fun i x hx => ?_⟩
  match i, hx with
  | 0, hx =>
    simp at hx
    subst hx
    refine ⟨_, cs, rfl, hF, h, fun j u hu => ?_⟩
    rw [Nat.zero_mul, Nat.zero_add]
    exact World.news_of_block (cs := cs.toArray) (t := E) (fr := (0, 0)) hb j u (by simpa using hu)

theorem ex34 (w : World) (x : Int) (hx : (Lit.int .u8 x).wf = true) :
    Calls Try.prog 14 #[.slice (some ⟨w.heap.size + 1, 0, none⟩) 1 1, .slice (some ⟨w.heap.size + 1 + 1 + 1, 0, none⟩) 1 1]
      ((((w.alloc (.cells #[.int .u8 1] 5)).alloc (.cells #[.slice (some ⟨w.heap.size, 0, none⟩) 1 1] 38)).alloc (.cells #[.int .u8 x] 5)).alloc (.cells #[.int .i64 0, .slice (some ⟨w.heap.size + 1 + 1, 0, none⟩) 1 1] 43))
      fun e w' => Below w.heap.size w w' ∧ ∃ A' n' c', e = .returned (.tuple #[.slice A' n' c', .int .i64 (outE [[1]] [(0, [x])])]) ∧ Sl (Enc.slice Enc.bytes) w' (fun _ => True) A' n' c' (outR [[1]] [(0, [x])]) := by
  obtain ⟨W, hW⟩ : ∃ W, ((((w.alloc (.cells #[.int .u8 1] 5)).alloc (.cells #[.slice (some ⟨w.heap.size, 0, none⟩) 1 1] 38)).alloc (.cells #[.int .u8 x] 5)).alloc (.cells #[.int .i64 0, .slice (some ⟨w.heap.size + 1 + 1, 0, none⟩) 1 1] 43)) = W := ⟨_, rfl⟩
  have h0 : W.heap[w.heap.size]? = some (.cells #[.int .u8 1] 5 (0, 0)) := by
    rw [← hW]; exact (Below.heap_alloc _ _ _ (by simp; try omega)).trans ((Below.heap_alloc _ _ _ (by simp; try omega)).trans ((Below.heap_alloc _ _ _ (by simp)).trans (World.alloc_heap_new w _)))
  have h1 : W.heap[w.heap.size + 1]? = some (.cells #[.slice (some ⟨w.heap.size, 0, none⟩) 1 1] 38 (0, 0)) := by
    rw [← hW]; exact (Below.heap_alloc _ _ _ (by simp; try omega)).trans ((Below.heap_alloc _ _ _ (by simp)).trans (by have := World.alloc_heap_new (w.alloc (.cells #[.int .u8 1] 5)) (.cells #[.slice (some ⟨w.heap.size, 0, none⟩) 1 1] 38); rwa [World.size_alloc] at this))
  have h2 : W.heap[w.heap.size + 1 + 1]? = some (.cells #[.int .u8 x] 5 (0, 0)) := by
    rw [← hW]; exact (Below.heap_alloc _ _ _ (by simp)).trans (by have := World.alloc_heap_new ((w.alloc (.cells #[.int .u8 1] 5)).alloc (.cells #[.slice (some ⟨w.heap.size, 0, none⟩) 1 1] 38)) (.cells #[.int .u8 x] 5); rwa [World.size_alloc, World.size_alloc] at this)
  have h3 : W.heap[w.heap.size + 1 + 1 + 1]? = some (.cells #[.int .i64 0, .slice (some ⟨w.heap.size + 1 + 1, 0, none⟩) 1 1] 43 (0, 0)) := by
    rw [← hW]
    have := World.alloc_heap_new (((w.alloc (.cells #[.int .u8 1] 5)).alloc (.cells #[.slice (some ⟨w.heap.size, 0, none⟩) 1 1] 38)).alloc (.cells #[.int .u8 x] 5)) (.cells #[.int .i64 0, .slice (some ⟨w.heap.size + 1 + 1, 0, none⟩) 1 1] 43)
    rwa [World.size_alloc, World.size_alloc, World.size_alloc] at this
  have hb : Below w.heap.size w W := by rw [← hW]; exact ((((Below.refl _ w).alloc (Nat.le_refl _) _).alloc (by simp) _).alloc (by simp; try omega) _).alloc (by simp; try omega) _
  rw [hW]
  have s0 : Sl Enc.u8 W (fun _ => True) (some ⟨w.heap.size, 0, none⟩) 1 1 [1] := Sl.lit1 (cs := [.int .u8 1]) h0 trivial ⟨rfl, by decide⟩
  have s1 : Sl Enc.bytes W (fun _ => True) (some ⟨w.heap.size + 1, 0, none⟩) 1 1 [[1]] := Sl.lit1 (e := Enc.bytes) (cs := [.slice (some ⟨w.heap.size, 0, none⟩) 1 1]) h1 trivial ⟨_, _, _, rfl, s0⟩
  have s2 : Sl Enc.u8 W (fun _ => True) (some ⟨w.heap.size + 1 + 1, 0, none⟩) 1 1 [x] := Sl.lit1 (cs := [.int .u8 x]) h2 trivial ⟨rfl, hx⟩
  have s3 : Sl Enc.entry W (fun _ => True) (some ⟨w.heap.size + 1 + 1 + 1, 0, none⟩) 1 1 [(0, [x])] :=
    Sl.lit1 (e := Enc.entry) (cs := [.int .i64 0, .slice (some ⟨w.heap.size + 1 + 1, 0, none⟩) 1 1]) h3 trivial ⟨[.int .i64 0], [.slice (some ⟨w.heap.size + 1 + 1, 0, none⟩) 1 1], rfl, ⟨rfl, (by decide : (Lit.int .i64 0).wf = true)⟩, ⟨_, _, _, rfl, s2⟩⟩
  exact (outcomes_any s1 s3 (by omega) (by simp) (by simp)).mono fun e w' ⟨h1, h2⟩ => ⟨hb.trans (h1.mono hb.size), h2⟩

set_option maxHeartbeats 400000 in
theorem awake34 (w : World) : Calls Try.prog 12 #[] w fun e w' => e = .returned (.bool true) ∧ Below w.heap.size w w' := by
  have e1 : Hid (outE [[1]] [(0, [2])] = 0) := Lib.hid (by decide)
  have e2 : Hid (outE [[1]] [(0, [1])] = 0) := Lib.hid (by decide)
  have l1 : Hid ((outR [[1]] [(0, [2])]).length = 2) := Lib.hid (by decide)
  have l2 : Hid ((outR [[1]] [(0, [1])]).length = 1) := Lib.hid (by decide)
  have HX1 := Lib.hid (ex34 w 2 (by decide))
  have HX2 := Lib.hid (fun W => ex34 W 1 (by decide))
  go_enter Try.func12, Try.ntmps12
  go_wp2_with fail
  refine HX1.out.mono ?_
  rintro e w1 ⟨hb1, A1, n1, c1, rfl, hs1⟩
  rw [e1.out]
  obtain rfl : n1 = 2 := hs1.1.trans l1.out
  clear hs1 HX1
  have HX3 := Lib.hid (HX2.out w1)
  go_wp2_with fail
  refine HX3.out.mono ?_
  rintro e w2 ⟨hb2, A2, n2, c2, rfl, hs2⟩
  rw [e2.out]
  obtain rfl : n2 = 1 := hs2.1.trans l2.out
  clear hs2 HX3 HX2
  go_wp2
  go_ret
  exact ⟨rfl, hb1.trans (hb2.mono hb1.size)⟩
end Go.Proofs.Ytdgcfgiedclmcaa
