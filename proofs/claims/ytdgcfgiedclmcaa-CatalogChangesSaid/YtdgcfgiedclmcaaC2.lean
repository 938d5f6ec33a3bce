/- Contracts: the guards of the laws on crashes. -/
import Derived.Test.YtdgcfgiedclmcaaC1
namespace Go.Proofs.Ytdgcfgiedclmcaa
open Go.RowKit

def inSectors (s : Int) (x : Entry) : Bool := decide (0 ≤ x.1 ∧ x.1 < s)
def shortRow (b : List Int) : Bool := decide (b.length ≤ 100)
def shortEntry (x : Entry) : Bool := decide (x.2.length ≤ 100)

section
variable {w : World} {F G : Nat → Prop} {A B : Option Addr} {n c m d : Nat}
set_option maxHeartbeats 400000 in
theorem within_any {s : Int} {ws : List Entry} (h : Sl Enc.entry w F A n c ws) :
    Calls Try.prog 15 #[.int .i64 s, .slice A n c] w fun e w' => e = .returned (.bool (ws.all (inSectors s))) ∧ Below w.heap.size w w' := by
  have hn := h.max
  generalize hr : ws.all (inSectors s) = r
  have HR := Lib.hid hr; clear hr
  go_enter Try.func15, Try.ntmps15
  go_wp2
  go_loopw [9] (fun i wr => ∃ k : Nat, k ≤ n ∧ i = .int .i64 k ∧ (ws.take k).all (inSectors s) = true ∧ Below w.heap.size w wr) (fun i _ => n - (intOf i).toNat)
  case atStart => exact ⟨0, by omega, by simp, by simp, .refl _ _⟩
  case round =>
    obtain ⟨k, hk, rfl, ht, hd⟩ := hrel
    have hsz := hd.size
    replace h := h.all hd
    have HT := Lib.hid ht; clear ht
    by_cases hlt : k < n
    · have hka := h.lt hlt
      obtain ⟨ad, B, m, d, rfl, -, hc1, hc2, -⟩ := h.entry k hka
      have HA := Lib.hid h; clear h
      by_cases hx : 0 ≤ ws[k].1 ∧ ws[k].1 < s
      · have HX : Hid (inSectors s ws[k] = true) := Lib.hid (by simp [inSectors, hx])
        obtain ⟨hx1, hx2⟩ := hx
        go_wp2
        go_roundw
        case rel => exact ⟨k + 1, by omega, by go_num, all_take_succ hka HT.out HX.out, hd.alloc hsz _⟩
        case measure => simp [intOf]; omega
      · have HX : Hid (ws.all (inSectors s) = false) := Lib.hid (all_false hka (by simp only [inSectors, hx, decide_false]))
        by_cases hx1 : 0 ≤ ws[k].1
        · have hx2 : s ≤ ws[k].1 := by omega
          clear hx
          go_wp2
          go_ret
          exact ⟨ret_bool (by rw [← HR.out, HX.out]), hd.alloc hsz _⟩
        · clear hx
          go_wp2
          go_ret
          exact ⟨ret_bool (by rw [← HR.out, HX.out]), hd.alloc hsz _⟩
    · have hl := h.len
      go_wp2
      go_ret
      exact ⟨ret_bool (by rw [← HR.out, all_done (by omega) HT.out]), hd⟩

set_option maxHeartbeats 400000 in
theorem few_any {im : List (List Int)} {ws : List Entry} (h : Sl Enc.bytes w F A n c im) (g : Sl Enc.entry w G B m d ws) :
    Calls Try.prog 13 #[.slice A n c, .slice B m d] w fun e w' =>
      e = .returned (.bool (im.all shortRow && (ws.all shortEntry && (decide (im.length ≤ 12) && decide (ws.length ≤ 14))))) ∧ Below w.heap.size w w' := by
  have hn := h.max
  have hm := g.max
  have hln := h.len
  have hlm := g.len
  generalize hr : (im.all shortRow && (ws.all shortEntry && (decide (im.length ≤ 12) && decide (ws.length ≤ 14)))) = r
  have HR := Lib.hid hr; clear hr
  go_enter Try.func13, Try.ntmps13
  go_wp2
  go_loop [11] (fun i => ∃ k : Nat, k ≤ n ∧ i = .int .i64 k ∧ (im.take k).all shortRow = true) (fun i => n - (intOf i).toNat)
  case atStart => exact ⟨0, by omega, by simp, by simp⟩
  case round =>
    obtain ⟨k, hk, rfl, ht⟩ := hrel
    have HT := Lib.hid ht; clear ht
    by_cases hlt : k < n
    · have hka := h.lt hlt
      obtain ⟨ad, A1, n1, c1, rfl, -, hca, hs⟩ := h.slice k hka
      have HS := Lib.hid hs.len
      have HA := Lib.hid h; clear h hs
      by_cases hx : n1 ≤ 100
      · have HX : Hid (shortRow im[k] = true) := Lib.hid (by simp [shortRow, HS.out, hx])
        go_wp2
        go_round
        case rel => exact ⟨k + 1, by omega, by go_num, all_take_succ hka HT.out HX.out⟩
        case measure => simp [intOf]; omega
      · have HX : Hid (shortRow im[k] = false) := Lib.hid (by simp [shortRow, HS.out]; omega)
        go_wp2
        go_ret
        exact ⟨ret_bool (by rw [← HR.out, all_false hka HX.out]; simp), .refl _ _⟩
    · have HI : Hid (im.all shortRow = true) := Lib.hid (all_done (by omega) HT.out)
      clear HT
      go_wp2
      go_loopw [21] (fun i wr => ∃ k : Nat, k ≤ m ∧ i = .int .i64 k ∧ (ws.take k).all shortEntry = true ∧ Below w.heap.size w wr) (fun i _ => m - (intOf i).toNat)
      case atStart => exact ⟨0, by omega, by simp, by simp, .refl _ _⟩
      case round =>
        obtain ⟨k, hk, rfl, ht, hd⟩ := hrel
        have hsz := hd.size
        replace g := g.all hd
        have HT := Lib.hid ht; clear ht
        by_cases hlt : k < m
        · have hka := g.lt hlt
          obtain ⟨ad, B1, m1, d1, rfl, -, hc1, hc2, hs⟩ := g.entry k hka
          have HS := Lib.hid hs.len
          have HA := Lib.hid g; clear g hs
          by_cases hx : m1 ≤ 100
          · have HX : Hid (shortEntry ws[k] = true) := Lib.hid (by simp [shortEntry, HS.out, hx])
            go_wp2
            go_roundw
            case rel => exact ⟨k + 1, by omega, by go_num, all_take_succ hka HT.out HX.out, hd.alloc hsz _⟩
            case measure => simp [intOf]; omega
          · have HX : Hid (shortEntry ws[k] = false) := Lib.hid (by simp [shortEntry, HS.out]; omega)
            go_wp2
            go_ret
            exact ⟨ret_bool (by rw [← HR.out, all_false hka HX.out]; simp), hd.alloc hsz _⟩
        · have HJ : Hid (ws.all shortEntry = true) := Lib.hid (all_done (by omega) HT.out)
          by_cases h1 : n ≤ 12
          · by_cases h2 : m ≤ 14
            all_goals
              go_wp2
              go_ret
              exact ⟨ret_bool (by rw [← HR.out, HI.out, HJ.out, hln, hlm]; simp [h1, h2] <;> omega), hd⟩
          · go_wp2
            go_ret
            exact ⟨ret_bool (by rw [← HR.out, HI.out, HJ.out, hln, hlm]; simp [h1]), hd⟩
end
end Go.Proofs.Ytdgcfgiedclmcaa
