/- Contracts: crash.Last, ref17.Same. -/
import Derived.Test.YtdgcfgiedclmcaaC4
import Derived.Test.YtdgcfgiedclmcaaF2
import Derived.Test.YtdgcfgiedclmcaaC1
namespace Go.Proofs.Ytdgcfgiedclmcaa
open Go.RowKit

theorem Try.infoEntry : (Try.prog.info? 43).map (fun i => (i.zero, i.size, i.bytes)) = some (some (.agg #[.int .i64 0, .slice none 0 0]), 2, 32) := by kernel_rfl

section
variable {w : World} {F G : Nat → Prop} {A B : Option Addr} {n c m d : Nat}
theorem last_pred (F : Nat → Prop) {b : Nat} {s : Int} (hc : w.cell? ⟨b, 0, none⟩ = some (.int .i64 s)) : PredE w F 67 #[.pointer (some ⟨b, 0, none⟩)] (fun x => decide (x.1 = s)) := by
  refine ⟨enters_of Try.func67 (by kernel_rfl) rfl, fun W x B m d hb _ => ?_⟩
  have hc' := (hb.cell (p := ⟨b, 0, none⟩) (World.block_lt_of_cell? w _ hc)).trans hc
  have hbl : b < W.heap.size := World.block_lt_of_cell? W _ hc'
  clear hc hb
  obtain ⟨x1, x2⟩ := x
  dsimp only
  go_enter Try.func67, Try.ntmps67
  go_wp2
  go_ret
  exact ⟨ret_bool rfl, (Below.refl _ _).alloc (Nat.le_refl _) _⟩

set_option maxHeartbeats 1000000 in
/-- ref17.Same: are two lists of entries one? -/
theorem same_entries {a b : List Entry} (ha : Sl Enc.entry w F A n c a) (hb : Sl Enc.entry w G B m d b) :
    Calls Try.prog 22 #[.slice A n c, .slice B m d] w fun e w' => e = .returned (.bool (decide (a = b))) ∧ Dr w w' := by
  have hn := ha.max
  by_cases hl : n = m
  · subst hl
    have HL := Lib.hid (ha.len.trans hb.len.symm)
    have hlb : ((n : Int) != (n : Int)) = false := by simp
    go_enter Try.func22, Try.ntmps22
    go_wp2
    go_loopw [5] (fun i wr => ∃ k : Nat, k ≤ n ∧ i = .int .i64 k ∧ a.take k = b.take k ∧ Dr w wr) (fun i _ => n - (intOf i).toNat)
    case atStart => exact ⟨0, by omega, by simp, by simp, .refl _⟩
    case round =>
      obtain ⟨k, hk, rfl, ht, hd⟩ := hrel
      replace ha := ha.all hd.below
      replace hb := hb.all hd.below
      have HT := Lib.hid ht; clear ht
      by_cases hlt : k < n
      · have hka := ha.lt hlt
        have hkb := hb.lt hlt
        obtain ⟨ad, A', n', c', rfl, -, hc1, hc2, hs1⟩ := ha.entry k hka
        obtain ⟨ae, B', m', d', rfl, -, hc3, hc4, hs2⟩ := hb.entry k hkb
        have HC := Lib.hid fun (q : Nat) => same_bytes (hs1.drewN q) (hs2.drewN q)
        have HA := Lib.hid ha; have HB := Lib.hid hb
        clear hs1 hs2 ha hb
        obtain ⟨xa, hxa⟩ : ∃ xa, a[k] = xa := ⟨_, rfl⟩
        obtain ⟨xb, hxb⟩ : ∃ xb, b[k] = xb := ⟨_, rfl⟩
        rw [hxa] at hc1 HC; rw [hxb] at hc3 HC
        have HXA := Lib.hid hxa; have HXB := Lib.hid hxb
        clear hxa hxb
        obtain ⟨xa1, xa2⟩ := xa
        obtain ⟨xb1, xb2⟩ := xb
        dsimp only at hc1 hc3 HC
        by_cases h1 : xa1 = xb1
        · subst h1
          have hne : (xa1 != xa1) = false := by simp
          by_cases h2 : xa2 = xb2
          · subst h2
            simp only [decide_true] at HC
            have HE : Hid (a[k] = b[k]) := Lib.hid (by rw [HXA.out, HXB.out])
            go_wp2
            go_quiet ((go_at_call 30; exact quiet_dr (HC.out _)))
            go_wp2
            go_roundw
            case rel => exact ⟨k + 1, by omega, by go_num, take_succ_eq hka hkb HT.out HE.out, hd.drewN _⟩
            case measure => simp [intOf]; omega
          · rw [decide_eq_false h2] at HC
            have HNE : Hid (a ≠ b) := Lib.hid (ne_at hka hkb (by rw [HXA.out, HXB.out]; intro e; injection e with _ e; exact h2 e))
            clear h2
            go_wp2
            go_quiet ((go_at_call 30; exact quiet_dr (HC.out _)))
            go_wp2
            go_ret
            exact ⟨ret_bool (by simp [HNE.out]), hd.drewN _⟩
        · have hne : (xa1 != xb1) = true := by simpa using h1
          have HNE : Hid (a ≠ b) := Lib.hid (ne_at hka hkb (by rw [HXA.out, HXB.out]; intro e; injection e with e _; exact h1 e))
          clear h1
          go_wp2
          go_quiet (fail)
          go_wp2
          go_ret
          exact ⟨ret_bool (by simp [HNE.out]), hd.drewN _⟩
      · have hlt' : k = n := by omega
        have HE : Hid (a = b) := Lib.hid (take_all_eq HL.out (by rw [ha.len]; exact hlt) HT.out)
        go_wp2
        go_ret
        exact ⟨ret_bool (by simp [HE.out]), hd⟩
  · have hlb : ((n : Int) != (m : Int)) = true := by simp; omega
    have hne : a ≠ b := fun h => hl (by rw [← ha.len, ← hb.len, h])
    have HN := Lib.hid hne; clear hne
    go_enter Try.func22, Try.ntmps22
    go_wp2
    go_ret
    exact ⟨ret_bool (by simp [HN.out]), .refl _⟩

set_option maxHeartbeats 1000000 in
theorem last_any {ws : List Entry} (h : Sl Enc.entry w F A n c ws) (hn : n ≤ 4096) :
    Calls Try.prog 23 #[.slice A n c] w fun e w' => ∃ v, e = .returned v ∧ Own Enc.entry 43 w' w.heap.size (fun b => F b ∧ b < w.heap.size) v (lastTo ws n) ∧ Below w.heap.size w w' := by
  have hln := h.len
  have hcap := h.2.1
  have H1 := Lib.hid h.old
  clear h
  go_enter Try.func23, Try.ntmps23
  go_wp2
  go_loopw [3, 8] (fun v i wr => ∃ k : Nat, k ≤ n ∧ i = .int .i64 k ∧ Own Enc.entry 43 wr w.heap.size (fun b => F b ∧ b < w.heap.size) v (lastTo ws k) ∧ Below w.heap.size w wr) (fun _ i _ => n - (intOf i).toNat)
  case atStart => exact ⟨0, by omega, by simp, (Own.nil _ _ _ _).weaken (fun _ h => h.elim) (fun _ h => by cases h) (fun b hb => hb.2), .refl _ _⟩
  case round =>
    obtain ⟨k, hk, rfl, ho, hd⟩ := hrel
    have hsz := hd.size
    by_cases hlt : k < n
    · have hka : k < ws.length := by omega
      have hS := H1.out.all hd
      obtain ⟨ad, B, m, d, rfl, -, hc1, hc2, hs⟩ := hS.entry k hka
      have hLk := lastTo_length ws k
      have hgd : ws.getD k (0, []) = ws[k] := by simp [List.getD, hka]
      have hsec := secAt_lt hka
      have hLS : lastTo ws (k + 1) = if lastOf ws k then lastTo ws k ++ [ws[k]] else lastTo ws k := by rw [← hgd]; rfl
      unfold lastOf hasS at hLS
      rw [hsec] at hLS
      obtain ⟨x, hx⟩ : ∃ x, ws[k] = x := ⟨_, rfl⟩
      rw [hx] at hc1 hs hLS
      have HWF := Lib.hid (H1.out.entryWf k hka)
      rw [hx] at HWF
      clear hx hsec hgd
      obtain ⟨x1, x2⟩ := x
      dsimp only at hc1 hs hLS
      have HP : Hid (∀ A' n' c', (c = k + 1 ∧ A' = some ad ∧ n' = 0 ∧ c' = 0) ∨ (c ≠ k + 1 ∧ A' = some (ad.add ((k + 1) * 2)) ∧ n' = n - (k + 1) ∧ c' = c - (k + 1)) → Calls Try.prog 66 #[.slice A' n' c', .func (.func 67) #[] #[.pointer (some ⟨wr.heap.size, 0, none⟩)]] (wr.alloc (.cells #[.int .i64 x1, .slice B m d] 43)) fun e w' => e = .returned (.bool ((ws.drop (k + 1)).any fun x => decide (x.1 = x1))) ∧ Below (wr.alloc (.cells #[.int .i64 x1, .slice B m d] 43)).heap.size (wr.alloc (.cells #[.int .i64 x1, .slice B m d] 43)) w') := Lib.hid (by
        intro A' n' c' hA
        have hD := ((hS.drop (k := k + 1) (by omega)).all ((Below.refl _ wr).alloc (Nat.le_refl _) (.cells #[.int .i64 x1, .slice B m d] 43)))
        rcases hA with ⟨h1, rfl, rfl, rfl⟩ | ⟨h1, rfl, rfl, rfl⟩
        · rw [if_pos h1] at hD
          have e : c - (k + 1) = 0 := by omega
          have e2 : n - (k + 1) = 0 := by omega
          rw [e, e2] at hD
          exact contains_entries hD (last_pred _ (b := wr.heap.size) (s := x1) (by simp))
        · rw [if_neg h1] at hD
          exact contains_entries hD (last_pred _ (b := wr.heap.size) (s := x1) (by simp)))
      have HO := Lib.hid ho
      have HS := Lib.hid hs
      clear ho hS hs
      have hk1 : (k + 1 == k + 1) = true := by simp
      by_cases hck : c = k + 1
      all_goals try subst hck
      all_goals
        cases hq : (ws.drop (k + 1)).any (fun x => decide (x.1 = x1)) with
        | true =>
          rw [hq] at HP
          have HE : Hid (lastTo ws (k + 1) = lastTo ws k) := Lib.hid (by rw [hLS, hq]; rfl)
          clear hq hLS
          go_wp2_with fail
          refine (HP.out _ _ _ (by first | exact .inl ⟨trivial, rfl, rfl, rfl⟩ | exact .inr ⟨by assumption, rfl, rfl, rfl⟩)).mono ?_
          rintro e w1 ⟨rfl, hb1⟩
          go_wp2
          go_roundw
          case rel => exact ⟨k + 1, by omega, by go_num, by rw [HE.out]; exact (HO.out.alloc _).all hb1, below_then (hd.alloc hsz _) (le_alloc hsz) hb1⟩
          case measure => simp [intOf]; omega
        | false =>
          rw [hq] at HP
          have HE : Hid (lastTo ws (k + 1) = lastTo ws k ++ [(x1, x2)]) := Lib.hid (by rw [hLS, hq]; rfl)
          clear hq hLS
          go_wp2_with fail
          refine (HP.out _ _ _ (by first | exact .inl ⟨trivial, rfl, rfl, rfl⟩ | exact .inr ⟨by assumption, rfl, rfl, rfl⟩)).mono ?_
          rintro e w1 ⟨rfl, hb1⟩
          have hx1 : w1.cell? ⟨wr.heap.size, 0, none⟩ = some (.int .i64 x1) := (hb1.cell (p := ⟨wr.heap.size, 0, none⟩) (by simp)).trans (by simp)
          have hx2 : w1.cell? ⟨wr.heap.size, 1, none⟩ = some (.slice B m d) := (hb1.cell (p := ⟨wr.heap.size, 1, none⟩) (by simp)).trans (by simp)
          have hd1 := below_then (hd.alloc hsz _) (le_alloc hsz) hb1
          have hs1 : w.heap.size ≤ w1.heap.size := by have := hb1.size; simp at this; omega
          have hs2 : wr.heap.size < w1.heap.size := by have := hb1.size; simp at this; omega
          have HO1 := Lib.hid ((HO.out.alloc (.cells #[.int .i64 x1, .slice B m d] 43)).all hb1)
          have HS1 := Lib.hid ((HS.out.keep (.alloc wr (.cells #[.int .i64 x1, .slice B m d] 43) _)).all hb1)
          clear HO HS HP
          have hwx : (Lit.int .i64 x1).wf = true := HWF.out
          go_wp2_with (at_builtin; refine wpl_app (e := Enc.entry) (E := 43) (base := w.heap.size) rfl _ _ 23 rfl Try.underlying23 Try.infoEntry rfl rfl rfl (HO1.out.alloc _) (Sr.box (e := Enc.entry) (G := fun b => F b ∧ b < w.heap.size) (y := (x1, x2)) ⟨[.int .i64 x1], [.slice B m d], rfl, ⟨rfl, hwx⟩, ⟨_, _, _, rfl, HS1.out⟩⟩ _) (fun g hg hG => by have := (HO1.out.blk hg).1; omega) (le_alloc hs1) (by omega) (by omega) ?_; intro v1 w2 ho2 hg2 _ _)
          have hd2 : Below w.heap.size w w2 := (hd1.alloc hs1 _).grown hg2 (le_alloc hs1) (fun g hg => (HO1.out.blk hg).1)
          have HO2 := Lib.hid (ho2.weaken (F' := fun b => F b ∧ b < w.heap.size) (fun b hb => by rcases hb with h | h; exact h; exact h.1) (fun g hg hG => by have := (ho2.blk hg).1; omega) (fun b hb => by have := hd2.size; omega))
          clear ho2 hg2
          go_roundw
          case rel => exact ⟨k + 1, by omega, by go_num, by rw [HE.out]; exact HO2.out, hd2⟩
          case measure => simp [intOf]; omega
    · have hkn : k = n := by omega
      subst hkn
      go_wp2
      go_ret
      exact ⟨_, rfl, ho, hd⟩
end
end Go.Proofs.Ytdgcfgiedclmcaa
