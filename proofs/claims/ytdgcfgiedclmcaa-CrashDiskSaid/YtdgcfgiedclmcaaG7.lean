/- Contracts of the disk: New. -/
import Derived.Test.YtdgcfgiedclmcaaG6
namespace Go.Proofs.Ytdgcfgiedclmcaa
open Go.RowKit

theorem Own.made {α : Type} {e : Enc α} {E : TypeId} {w : World} {base : Nat} {z : Value} {x : α} (n : Nat) (hs : e.size = 1) (hn : n ≤ maxLen) (hb : base ≤ w.heap.size) (hz : ∀ W : World, e.rel W (fun _ => False) [z] x) :
    Own e E (w.alloc (.cells (madeCells #[z] n) E)) base (fun _ => False) (.slice (some ⟨w.heap.size, 0, none⟩) n n) (List.replicate n x) := by
  have hl : (madeCells #[z] n).toList = List.replicate n z := toList_madeCells_one z n
  refine ⟨List.replicate n z, ⟨by simp [hs], .inr ⟨w.heap.size, n, madeCells #[z] n, by simp, hb, ?_, by simp, hn, by rw [size_madeCells, hs]; simp, by rw [hl, hs]; simp⟩⟩, fun i y hy => ?_, fun _ _ h => h, fun _ h => h.elim⟩
  · exact heap_alloc_new w _
  · have hi : i < n := by have := (List.getElem?_eq_some_iff.1 hy).1; simpa using this
    have hy' : y = x := by
      have := (List.getElem?_eq_some_iff.1 hy).2
      simpa using this.symm
    subst hy'
    rw [hs, Nat.mul_one]
    have : ((List.replicate n z).drop i).take 1 = [z] := by
      rw [List.drop_replicate, List.take_replicate]
      have : min 1 (n - i) = 1 := by omega
      rw [this]; rfl
    rw [this]
    exact hz _

def zeros (n : Nat) : List Int := List.replicate n 0
def newTo (n size k : Nat) : List (List Int) := List.replicate k (zeros size) ++ List.replicate (n - k) []
def newD (n size : Nat) : DiskS := ⟨List.replicate n (zeros size), size, [], false, 0, [], 0⟩
theorem newTo_length {n size k : Nat} (hk : k ≤ n) : (newTo n size k).length = n := by simp [newTo]; omega
theorem newTo_set {n size k : Nat} (hk : k < n) : (newTo n size k).set k (zeros size) = newTo n size (k + 1) := by
  unfold newTo
  rw [List.set_append_right _ _ (by simp)]
  have e : n - k = (n - (k + 1)) + 1 := by omega
  rw [e, List.replicate_succ, List.length_replicate, Nat.sub_self, List.set_cons_zero, List.replicate_succ', List.append_assoc]
  rfl

section
variable {w : World} {n₀ : Nat}
set_option maxHeartbeats 1000000 in
theorem disk_new (hn₀ : n₀ ≤ w.heap.size) {n size : Nat} (h1 : 1 ≤ n) (h2 : n ≤ 1048576) (h3 : 32 ≤ size) (h4 : size ≤ 256) (h5 : size % 16 = 0) :
    Calls Try.prog 24 #[.int .i64 n, .int .i64 size] w fun e w' => ∃ p g, e = .returned (.tuple #[.pointer (some ⟨p, 0, none⟩), .int .i64 0]) ∧ DiskAt w' n₀ p g (newD n size) ∧ w.heap.size ≤ p ∧ w.heap.size ≤ g ∧ Below w.heap.size w w' := by
  have hmk := run_make_row' (P := Try.prog) 22 38 (.slice none 0 0) 24 Try.underlying22 Try.infoBytes rfl .i64 .i64 n (by omega) (by omega)
  have hmb := run_make_row' (P := Try.prog) 38 5 (.int .u8 0) 1 Try.underlying38 Try.infoU8 rfl .i64 .i64 size (by omega) (by omega)
  have hd1 : decide ((n : Int) < 1) = false := by simp; omega
  have hd2 : decide (1048576 < (n : Int)) = false := by simp; omega
  have hd3 : decide ((size : Int) < 32) = false := by simp; omega
  have hd4 : decide (256 < (size : Int)) = false := by simp; omega
  have hr : Int.tmod (size : Int) 16 = 0 := by rw [Int.tmod_eq_emod_of_nonneg (by omega)]; omega
  -- the disk as it begins
  obtain ⟨W0, hW0⟩ : ∃ W0, (w.alloc (.cells (madeCells #[.slice none 0 0] n) 38)).alloc (.cells #[.slice (some ⟨w.heap.size, 0, none⟩) n n, .int .i64 size, .slice none 0 0, .bool false, .int .i64 0, .slice none 0 0, .int .i64 0] 114) = W0 := ⟨_, rfl⟩
  have hz0 : W0.heap.size = w.heap.size + 2 := by rw [← hW0]; simp
  have hb0 : Below w.heap.size w W0 := by rw [← hW0]; exact ((Below.refl _ w).alloc (Nat.le_refl _) _).alloc (by simp) _
  have hD0 : DiskAt W0 n₀ (w.heap.size + 1) w.heap.size { newD n size with kept := newTo n size 0 } := by
    have hl : (newTo n size 0).length = n := newTo_length (by omega)
    have ho : Own Enc.bytes 38 W0 n₀ (FT n₀ W0) (.slice (some ⟨w.heap.size, 0, none⟩) n n) (newTo n size 0) := by
      have h1 := (Own.made (e := Enc.bytes) (E := 38) (w := w) (base := n₀) (z := .slice none 0 0) (x := ([] : List Int)) n rfl (by unfold maxLen; omega) hn₀ (fun W => ⟨_, _, _, rfl, Sl.nil _ _ _⟩)).alloc (.cells #[.slice (some ⟨w.heap.size, 0, none⟩) n n, .int .i64 size, .slice none 0 0, .bool false, .int .i64 0, .slice none 0 0, .int .i64 0] 114)
      rw [hW0] at h1
      exact h1.retypeN (by decide) (Nat.le_refl _) (by omega) (fun _ h => h.elim)
    refine ⟨by omega, hn₀, by rw [hl]; omega, by rw [hl]; omega, ⟨.slice none 0 0, none, 0, 0, ?_, ?_, Sl.nil _ _ _⟩, by rw [hl]; exact ho, by simp [newD], by simp [newD], ?_, by simp [newD]⟩
    · rw [hl, ← hW0]
      have := heap_alloc_new (w.alloc (.cells (madeCells #[.slice none 0 0] n) 38)) (.cells #[.slice (some ⟨w.heap.size, 0, none⟩) n n, .int .i64 size, .slice none 0 0, .bool false, .int .i64 0, .slice none 0 0, .int .i64 0] 114)
      rw [World.size_alloc] at this
      exact this
    · exact (Own.nil _ _ _ _).retypeN (by decide) (Nat.le_refl _) (by omega) (fun _ h => h.elim)
    · intro x hx
      simp [newTo] at hx
      simp [hx]
  have c00 : W0.cell? ⟨w.heap.size + 1, 0, none⟩ = some (.slice (some ⟨w.heap.size, 0, none⟩) n n) := by
    obtain ⟨_, _, _, _, _, ⟨h0, -⟩, -⟩ := hD0.fields
    rw [h0, newTo_length (by omega)]
  have HD0 := Lib.hid hD0; have HB0 := Lib.hid hb0; have HZ0 := Lib.hid hz0
  clear hD0 hb0 hz0
  go_enter Try.func24, Try.ntmps24
  go_wp2
  go_loopw [37] (fun i wr => ∃ k : Nat, k ≤ n ∧ i = .int .i64 k ∧ DiskAt wr n₀ (w.heap.size + 1) w.heap.size { newD n size with kept := newTo n size k } ∧ Below w.heap.size w wr) (fun i _ => n - (intOf i).toNat)
  case atStart => exact ⟨0, by omega, by simp, HD0.out, HB0.out⟩
  case round =>
    obtain ⟨k, hk, rfl, hdk, hbr⟩ := hrel
    have hlk := newTo_length (n := n) (size := size) (k := k) hk
    by_cases hlt : k < n
    · obtain ⟨vw, A, n', c', -, ⟨d0, -, -, -, -, -, -⟩, -, -, -⟩ := hdk.fields
      dsimp only at d0
      rw [hlk] at d0
      obtain ⟨u0, hu0, hu1, -⟩ := hdk.row.cell1 rfl k (by rw [hlk]; exact hlt)
      have hgl := hdk.glt
      have hpl := hdk.plt
      have HDK := Lib.hid hdk; have HBR := Lib.hid hbr
      clear hdk hbr hW0 c00 hlk
      go_wp2
      go_region
      have hz : Own Enc.u8 5 (wr.alloc (.cells (madeCells #[.int .u8 0] size) 5)) n₀ (fun _ => False) (.slice (some ⟨wr.heap.size, 0, none⟩) size size) (zeros size) :=
        Own.made (e := Enc.u8) (E := 5) (w := wr) (base := n₀) (z := .int .u8 0) (x := (0 : Int)) size rfl (by unfold maxLen; omega) (by have := HBR.out.size; omega) (fun W => ⟨rfl, by decide⟩)
      obtain ⟨Az, cz, ez, hsz⟩ := hz.sl (F' := FT n₀ (wr.alloc (.cells (madeCells #[.int .u8 0] size) 5))) (fun _ h => h.elim) (fun j hj => .inr (by obtain ⟨cs, hcs⟩ := hz.typed hj; exact ⟨cs, _, _, hcs, by decide⟩))
      have hzl : (zeros size).length = size := by simp [zeros]
      rw [hzl] at ez hsz
      cases ez
      have hset := (HDK.out.alloc (.cells (madeCells #[.int .u8 0] size) 5)).setRow (i := k) (by rw [newTo_length hk]; exact hlt) hsz (by rw [hzl]; omega)
      rw [World.setCell_alloc_past _ _ _ _ hgl] at hset
      have HSET := Lib.hid (hset.dr (.drew (.refl _)))
      have HB2 : Hid (Below w.heap.size w ((wr.setCell ⟨w.heap.size, k, none⟩ (.slice (some ⟨wr.heap.size, 0, none⟩) size size)).alloc (.cells (madeCells #[.int .u8 0] size) 5)).drew) := Lib.hid (((HBR.out.setCell (Nat.le_refl _) _).alloc (by simp [World.setCell]; omega) _).drew)
      clear hz hsz hset
      go_wp2
      go_roundw
      case rel => exact ⟨k + 1, by omega, by go_num, by rw [← newTo_set hlt]; exact HSET.out, HB2.out⟩
      case measure => simp [intOf]; omega
    · have hkn : k = n := by omega
      subst hkn
      have HDK := Lib.hid hdk; have HBR := Lib.hid hbr
      have he : newTo k size k = List.replicate k (zeros size) := by simp [newTo]
      clear hdk hbr hlk hW0 c00
      go_wp2
      go_ret2
      refine ⟨w.heap.size + 1, rfl, w.heap.size, ?_, by omega, by omega, HBR.out⟩
      have := HDK.out
      rw [he] at this
      exact this

set_option maxRecDepth 100000 in
theorem disk_new_not {n size : Int} (h : n < 1 ∨ 1048576 < n ∨ size < 32 ∨ 256 < size ∨ Int.tmod size 16 ≠ 0) :
    Calls Try.prog 24 #[.int .i64 n, .int .i64 size] w fun e w' => e = .returned (.tuple #[.pointer none, .int .i64 2]) ∧ w' = w := by
  by_cases h1 : n < 1
  · clear h
    go_enter Try.func24, Try.ntmps24
    go_wp2
    go_ret2
    exact ⟨rfl, rfl⟩
  by_cases h2 : 1048576 < n
  · clear h
    go_enter Try.func24, Try.ntmps24
    go_wp2
    go_ret2
    exact ⟨rfl, rfl⟩
  by_cases h3 : size < 32
  · clear h
    go_enter Try.func24, Try.ntmps24
    go_wp2
    go_ret2
    exact ⟨rfl, rfl⟩
  by_cases h4 : 256 < size
  · clear h
    go_enter Try.func24, Try.ntmps24
    go_wp2
    go_ret2
    exact ⟨rfl, rfl⟩
  have e1 : decide (n < 1) = false := decide_eq_false h1
  have e2 : decide (1048576 < n) = false := decide_eq_false h2
  have e3 : decide (size < 32) = false := decide_eq_false h3
  have e4 : decide (256 < size) = false := decide_eq_false h4
  have h5 : (Int.tmod size 16 != 0) = true := by
    rcases h with h | h | h | h | h
    · exact absurd h h1
    · exact absurd h h2
    · exact absurd h h3
    · exact absurd h h4
    · simpa using h
  clear h h1 h2 h3 h4
  go_enter Try.func24, Try.ntmps24
  go_wp2
  go_ret2
  exact ⟨rfl, rfl⟩
end
end Go.Proofs.Ytdgcfgiedclmcaa
