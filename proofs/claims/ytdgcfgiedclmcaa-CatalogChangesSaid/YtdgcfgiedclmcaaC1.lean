/- Contract: law34.same. -/
import Derived.Test.YtdgcfgiedclmcaaProg
import Derived.Test.YtdgcfgiedclmcaaA1
namespace Go.Proofs.Ytdgcfgiedclmcaa
open Go.RowKit

section
variable {w : World} {F G : Nat → Prop} {A B : Option Addr} {n c m d : Nat}
set_option maxHeartbeats 400000 in
/-- law34.same: are two images one? -/
theorem same_rows {a b : List (List Int)} (ha : Sl Enc.bytes w F A n c a) (hb : Sl Enc.bytes w G B m d b) :
    Calls Try.prog 17 #[.slice A n c, .slice B m d] w fun e w' => e = .returned (.bool (decide (a = b))) ∧ Dr w w' := by
  have hn := ha.max
  by_cases hl : n = m
  · subst hl
    have HL := Lib.hid (ha.len.trans hb.len.symm)
    have hlb : ((n : Int) != (n : Int)) = false := by simp
    go_enter Try.func17, Try.ntmps17
    go_wp2
    go_loopw [13] (fun i wr => ∃ k : Nat, k ≤ n ∧ i = .int .i64 k ∧ a.take k = b.take k ∧ Dr w wr) (fun i _ => n - (intOf i).toNat)
    case atStart => exact ⟨0, by omega, by simp, by simp, .refl _⟩
    case round =>
      obtain ⟨k, hk, rfl, ht, hd⟩ := hrel
      replace ha := ha.all hd.below
      replace hb := hb.all hd.below
      have HT := Lib.hid ht; clear ht
      by_cases hlt : k < n
      · have hka := ha.lt hlt
        have hkb := hb.lt hlt
        obtain ⟨ad, A1, n1, c1, rfl, -, hca, hsa⟩ := ha.slice k hka
        obtain ⟨bd, B1, m1, d1, rfl, -, hcb, hsb⟩ := hb.slice k hkb
        have HA := Lib.hid ha; have HB := Lib.hid hb; clear ha hb
        have HC := Lib.hid fun q => same_bytes (hsa.drewN q) (hsb.drewN q)
        clear hsa hsb
        by_cases hx : a[k] = b[k]
        · have HX := Lib.hid hx
          simp only [hx, decide_true] at HC
          clear hx
          go_wp2
          go_quiet ((go_at_call 30; exact quiet_dr (HC.out _)))
          go_wp2
          go_roundw
          case rel => exact ⟨k + 1, by omega, by go_num, take_succ_eq hka hkb HT.out HX.out, hd.drewN _⟩
          case measure => simp [intOf]; omega
        · have HX := Lib.hid hx
          simp only [hx, decide_false] at HC
          clear hx
          go_wp2
          go_quiet ((go_at_call 30; exact quiet_dr (HC.out _)))
          go_wp2
          go_ret
          exact ⟨ret_bool (by simp [ne_at hka hkb HX.out]), hd.drewN _⟩
      · go_wp2
        go_ret
        exact ⟨ret_bool (by simp [take_all_eq HL.out (by rw [ha.len]; exact hlt) HT.out]), hd⟩
  · have hlb : ((n : Int) != (m : Int)) = true := by simp; omega
    have hne : a ≠ b := fun h => hl (by rw [← ha.len, ← hb.len, h])
    have HN := Lib.hid hne; clear hne
    go_enter Try.func17, Try.ntmps17
    go_wp2
    go_ret
    exact ⟨ret_bool (by simp [HN.out]), .refl _⟩
end
end Go.Proofs.Ytdgcfgiedclmcaa
