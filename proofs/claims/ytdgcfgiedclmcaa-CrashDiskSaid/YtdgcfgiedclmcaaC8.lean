/- Contract: law34.done. -/
import Derived.Test.YtdgcfgiedclmcaaC7
namespace Go.Proofs.Ytdgcfgiedclmcaa
open Go.RowKit

section
variable {w : World} {F G H : Nat → Prop} {A B D : Option Addr} {n c m d kn kc : Nat}
set_option maxHeartbeats 1000000 in
theorem law_done {im : List (List Int)} {ws : List Entry} {keep : List Bool} (h : Sl Enc.bytes w F A n c im) (g : Sl Enc.entry w G B m d ws) (hk : Sl Enc.bool w H D kn kc keep)
    (hin : ∀ x ∈ ws, 0 ≤ x.1 ∧ x.1 < n) (hn : n ≤ 4096) :
    Calls Try.prog 16 #[.slice A n c, .slice B m d, .slice D kn kc] w fun e w' => ∃ v, e = .returned v ∧ Own Enc.bytes 38 w' w.heap.size (fun b => (F b ∨ G b) ∧ b < w.heap.size) v (doneTo (keepP keep) ws im ws.length) ∧ Below w.heap.size w w' := by
  have hm := g.max
  have hln := h.len
  have hlm := g.len
  have hkm := hk.max
  have hlk := hk.len
  have HIN := Lib.hid hin; clear hin
  have HS := Lib.hid (h.old.keep (.alloc w (.cells #[] 38) _))
  clear h
  go_enter Try.func16, Try.ntmps16
  go_wp2_with (at_builtin; refine wpl_app (e := Enc.bytes) rfl _ _ 22 rfl Try.underlying22 Try.infoBytes rfl rfl rfl (Own.litNil _ _ w w.heap.size (Nat.le_refl _)) HS.out.sr (fun g hg hb => by cases hg; exact absurd hb.2 (Nat.lt_irrefl _)) (by simp) (by omega) (by simp; omega) ?_; intro v1 w1 ho hg hat _)
  have hd := ((Below.refl w.heap.size w).alloc (Nat.le_refl _) (.cells #[] 38)).grown hg (by simp) (fun k hk => by cases hk; exact Nat.le_refl _)
  have hsz1 := hd.size
  obtain ⟨A0, c0, hv0, -, hcm0, -⟩ := ho.form
  simp only [List.nil_append] at hv0 ho
  rw [hln] at hv0
  subst hv0
  have HO := Lib.hid (ho.weaken (F' := fun b => (F b ∨ G b) ∧ b < w.heap.size) (fun b hb => by rcases hb with hb | hb; exact hb.elim; exact ⟨.inl hb.1.1, hb.1.2⟩) (fun g hg hb => by have := (ho.blk hg).1; omega) (fun b hb => by omega))
  clear ho hg hat HS
  go_loopw [15] (fun i wr => ∃ k : Nat, k ≤ m ∧ i = .int .i64 k ∧ Own Enc.bytes 38 wr w.heap.size (fun b => (F b ∨ G b) ∧ b < w.heap.size) (.slice A0 n c0) (doneTo (keepP keep) ws im k) ∧ Below w.heap.size w wr) (fun i _ => m - (intOf i).toNat)
  case atStart => exact ⟨0, by omega, by simp, HO.out, hd⟩
  case round =>
    clear HO
    obtain ⟨k, hkk, rfl, ho, hdr⟩ := hrel
    have hsz := hdr.size
    by_cases hlt : k < m
    · have hka := g.lt hlt
      have hgr := g.old.all hdr
      replace hk := hk.all hdr
      obtain ⟨ad, B1, m1, d1, rfl, -, hc1, hc2, hs⟩ := hgr.entry k hka
      have HA := Lib.hid g; clear g hgr
      obtain ⟨hx0, hx1⟩ := HIN.out _ (List.getElem_mem hka)
      obtain ⟨s, hes⟩ := Int.eq_ofNat_of_zero_le hx0
      rw [hes] at hc1
      have hbx := below_box (Below.refl wr.heap.size wr) (Nat.le_refl _) (.cells #[.int .i64 (s : Int), .slice B1 m1 d1] 43)
      have HSB := Lib.hid (hs.keep (F' := fun b => (F b ∨ G b) ∧ b < w.heap.size) fun b hb _ => ⟨rfl, .inr hb.1, hb.2⟩)
      have hsn : s < n := by omega
      have HE := Lib.hid hes
      clear hs hes hx0 hx1
      have HLL := Lib.hid ((doneTo_length (keepP keep) ws im k).trans hln)
      have HOW := Lib.hid ho
      have HOB := Lib.hid (ho.all hbx)
      obtain ⟨gb, hA1, hgb, hgl⟩ := ho.blockOf (by omega)
      subst hA1
      have hbelow := hdr.alloc hsz (.cells #[.int .i64 (s : Int), .slice B1 m1 d1] 43)
      clear ho
      have hno : keepP keep k = false → Hid (doneTo (keepP keep) ws im (k + 1) = doneTo (keepP keep) ws im k) := fun hpk => Lib.hid (by rw [doneTo_succ, wstep_no hpk])
      by_cases hlk1 : k < kn
      · obtain ⟨kd, rfl, -, hck⟩ := hk.bool k (by omega)
        have hkd := World.block_lt_of_cell? wr _ hck
        rw [add_block] at hkd
        have hck' : (wr.alloc (.cells #[.int .i64 (s : Int), .slice B1 m1 d1] 43)).cell? (kd.add k) = some (.bool keep[k]) := (World.cell?_alloc_lt wr _ _ (by rw [add_block]; exact hkd)).trans hck
        have HKP := Lib.hid (keepP_at (keep := keep) (i := k) (by omega))
        have HK := Lib.hid hk; clear hk hck
        cases hpk : keep[k] with
        | false =>
          rw [hpk] at hck'
          have HK1 := hno (by rw [HKP.out, hpk])
          clear hpk hno
          go_wp2
          go_roundw
          case rel => exact ⟨k + 1, by omega, by go_num, by rw [HK1.out]; exact HOB.out, hbelow⟩
          case measure => simp [intOf]; omega
        | true =>
          rw [hpk] at hck'
          have HK1 : Hid (doneTo (keepP keep) ws im (k + 1) = (doneTo (keepP keep) ws im k).set s ws[k].2) := Lib.hid (by rw [doneTo_succ, wstep_yes (by rw [HKP.out, hpk]) hka, HE.out]; rfl)
          clear hpk hno
          have ho2 := HOW.out
          obtain ⟨u, hu1, hu2, _⟩ := ho2.cell1 rfl s (by rw [HLL.out]; exact hsn)
          have HST := Lib.hid (ho2.store1 rfl s (by rw [HLL.out]; exact hsn) (u := .slice B1 m1 d1) (y := ws[k].2) ⟨_, _, _, rfl, HSB.out⟩)
          have hbelow2 := (hdr.setCell (p := ⟨gb, s, none⟩) hgb (.slice B1 m1 d1)).alloc (by simpa [World.setCell] using hsz) (.cells #[.int .i64 (s : Int), .slice B1 m1 d1] 43)
          clear ho2
          go_wp2
          go_roundw
          case rel => exact ⟨k + 1, by omega, by go_num, by rw [HK1.out]; exact HST.out.alloc _, hbelow2⟩
          case measure => simp [intOf]; omega
      · have HK1 := hno (keepP_no (by omega))
        have HK := Lib.hid hk; clear hk hno
        go_wp2
        go_roundw
        case rel => exact ⟨k + 1, by omega, by go_num, by rw [HK1.out]; exact HOB.out, hbelow⟩
        case measure => simp [intOf]; omega
    · have hkm : k = m := by omega
      subst hkm
      rw [← hlm] at ho
      have HO := Lib.hid ho; clear ho
      go_wp2
      go_ret
      exact ⟨_, rfl, HO.out, hdr⟩
end
end Go.Proofs.Ytdgcfgiedclmcaa
