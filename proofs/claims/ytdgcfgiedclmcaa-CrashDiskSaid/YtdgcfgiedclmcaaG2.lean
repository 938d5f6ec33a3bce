/- Contracts of the disk: is, may, Power; settle, Crash, step. -/
import Derived.Test.YtdgcfgiedclmcaaG1
import Derived.Test.YtdgcfgiedclmcaaC7
import Derived.Deep.RegionWith
import Derived.BigRegion
namespace Go.Proofs.Ytdgcfgiedclmcaa
open Go.RowKit

theorem Own.entry1 {E : TypeId} {w : World} {base : Nat} {F : Nat → Prop} {A : Option Addr} {n c : Nat} {xs : List Entry} (h : Own Enc.entry E w base F (.slice A n c) xs) (i : Nat) (hi : i < xs.length) :
    ∃ ad B m d, A = some ad ∧ w.cell? (ad.add (i * 2)) = some (.int .i64 xs[i].1) ∧ w.cell? ⟨(ad.add (i * 2)).block, (ad.add (i * 2)).off + 1, none⟩ = some (.slice B m d) ∧ Sl Enc.u8 w F B m d xs[i].2 ∧ (Lit.int .i64 xs[i].1).wf = true := by
  obtain ⟨A', c', e, h1, h2, h3⟩ := h.form
  injection e with e1 e2 e3
  obtain ⟨g, rfl, hg, hl⟩ := h3 (by omega)
  subst e1 e2 e3
  obtain ⟨cells, ho, hr, _⟩ := h
  obtain ⟨v1, v2, hv, ⟨rfl, hwf⟩, ⟨B, m, d, rfl, hs⟩⟩ := hr i _ (List.getElem?_eq_getElem hi)
  have key : ∀ j u, [Value.int IntKind.i64 xs[i].1, Value.slice B m d][j]? = some u → w.cell? ((⟨g, 0, none⟩ : Addr).add (i * 2 + j)) = some u := fun j u hu => by
    have hu' : ((cells.drop (i * 2)).take 2)[j]? = some u := by
      have e : (cells.drop (i * Enc.entry.size)).take Enc.entry.size = [Value.int IntKind.i64 xs[i].1, Value.slice B m d] := hv
      rw [show Enc.entry.size = 2 from rfl] at e
      rw [e]; exact hu
    rw [List.getElem?_take] at hu'
    split at hu'
    · rw [List.getElem?_drop] at hu'
      exact ho.cells (g := g) rfl _ u hu'
    · cases hu'
  exact ⟨_, B, m, d, rfl, key 0 _ rfl, cell_fld (by omega) (key 1 _ rfl), hs, hwf⟩

def mayD (D : DiskS) (s : Int) : Int := if D.off then 40 else if s < 0 ∨ (D.kept.length : Int) ≤ s then 41 else 0
def settleD (q : Nat → Bool) (D : DiskS) : DiskS := { D with kept := doneTo q D.waits D.kept D.waits.length, waits := [] }
def crashD (keep : List Bool) (D : DiskS) : DiskS := if D.off then D else { settleD (keepP keep) D with off := true, fuse := 0 }
def burntD (D : DiskS) : Bool := decide (D.fuse = 1)
def stepD (D : DiskS) : DiskS := if D.fuse = 1 then crashD D.keep D else { D with fuse := max (D.fuse - 1) 0, steps := wrap64 (D.steps + 1) }

section
variable {w : World} {n₀ p g : Nat} {D : DiskS}
theorem disk_is (h : DiskAt w n₀ p g D) : Calls Try.prog 73 #[.pointer (some ⟨p, 0, none⟩)] w fun e w' => e = .returned (.bool true) ∧ Dr w w' := by
  obtain ⟨vw, A, n, c, hc, ⟨h0, h1, h2, h3, h4, h5, h6⟩, hf, ho, hs⟩ := h.fields
  have hpos := h.pos
  have hd : decide (0 < (D.kept.length : Int)) = true := by simp; omega
  clear h hc ho hs h1 h2 h3 h4 h5 h6 hf
  go_enter Try.func73, Try.ntmps73
  go_wp2
  go_ret
  exact ⟨rfl, .refl _⟩
theorem disk_may (h : DiskAt w n₀ p g D) (s : Int) : Calls Try.prog 68 #[.pointer (some ⟨p, 0, none⟩), .int .i64 s] w fun e w' => e = .returned (.int .i64 (mayD D s)) ∧ Dr w w' := by
  have HI := Lib.hid (disk_is h)
  have HF := Lib.hid fun (W : World) (hd : Dr w W) => (h.dr hd).fields
  have hm := h.most
  clear h
  obtain ⟨r, hr⟩ : ∃ r, mayD D s = r := ⟨_, rfl⟩
  rw [hr]
  obtain ⟨l, hl⟩ : ∃ l, D.kept.length = l := ⟨_, rfl⟩
  have hr' : Hid (mayD D s = r ∧ D.kept.length = l) := Lib.hid ⟨hr, hl⟩
  rw [hl] at HF hm
  clear hr hl
  cases ho : D.off with
  | true =>
    have HR : Hid (r = 40) := Lib.hid (by rw [← hr'.out.1]; simp [mayD, ho])
    rw [ho] at HF
    clear hr' ho
    go_enter Try.func68, Try.ntmps68
    go_wp2_with fail
    refine HI.out.mono ?_
    rintro e w1 ⟨rfl, hd1⟩
    obtain ⟨vw, A, n, c, -, ⟨h0, -, -, h3, -, -, -⟩, -, -, -⟩ := HF.out w1 hd1
    go_wp2
    go_ret
    exact ⟨ret_int HR.out.symm, hd1⟩
  | false =>
    rw [ho] at HF
    by_cases h1 : s < 0
    · have HR : Hid (r = 41) := Lib.hid (by rw [← hr'.out.1]; simp [mayD, ho, h1])
      clear hr' ho
      go_enter Try.func68, Try.ntmps68
      go_wp2_with fail
      refine HI.out.mono ?_
      rintro e w1 ⟨rfl, hd1⟩
      obtain ⟨vw, A, n, c, -, ⟨h0, -, -, h3, -, -, -⟩, -, -, -⟩ := HF.out w1 hd1
      go_wp2
      go_ret
      exact ⟨ret_int HR.out.symm, hd1⟩
    · by_cases h2 : (l : Int) ≤ s
      · have HR : Hid (r = 41) := Lib.hid (by rw [← hr'.out.1]; simp [mayD, ho, hr'.out.2, h2])
        clear hr' ho
        go_enter Try.func68, Try.ntmps68
        go_wp2_with fail
        refine HI.out.mono ?_
        rintro e w1 ⟨rfl, hd1⟩
        obtain ⟨vw, A, n, c, -, ⟨h0, -, -, h3, -, -, -⟩, -, -, -⟩ := HF.out w1 hd1
        go_wp2
        go_ret
        exact ⟨ret_int HR.out.symm, hd1⟩
      · have HR : Hid (r = 0) := Lib.hid (by rw [← hr'.out.1]; simp [mayD, ho, hr'.out.2, h2, h1])
        clear hr' ho
        go_enter Try.func68, Try.ntmps68
        go_wp2_with fail
        refine HI.out.mono ?_
        rintro e w1 ⟨rfl, hd1⟩
        obtain ⟨vw, A, n, c, -, ⟨h0, -, -, h3, -, -, -⟩, -, -, -⟩ := HF.out w1 hd1
        go_wp2
        go_ret
        exact ⟨ret_int HR.out.symm, hd1⟩

theorem DiskAt.turned {w' : World} (h : DiskAt w n₀ p g D) (hs : w.heap.size ≤ w'.heap.size) (hk : ∀ b, b < w.heap.size → b ≠ p → w'.heap[b]? = w.heap[b]?) {off : Bool} {fuse steps : Int} (hfu : 0 ≤ fuse ∧ fuse ≤ 1099511627777)
    (hc : ∀ vw A n c, w.heap[p]? = some (.cells #[.slice (some ⟨g, 0, none⟩) D.kept.length D.kept.length, .int .i64 D.size, vw, .bool D.off, .int .i64 D.fuse, .slice A n c, .int .i64 D.steps] 114 (0, 0)) →
      w'.heap[p]? = some (.cells #[.slice (some ⟨g, 0, none⟩) D.kept.length D.kept.length, .int .i64 D.size, vw, .bool off, .int .i64 fuse, .slice A n c, .int .i64 steps] 114 (0, 0))) : DiskAt w' n₀ p g { D with off := off, fuse := fuse, steps := steps } := by
  have hn := h.n0
  have hpF := h.notP
  have hF : ∀ b, FT n₀ w b → w'.heap[b]? = w.heap[b]? := fun b hb => hk b (hb.lt hn) (fun e => hpF (e ▸ hb))
  have hK : KeepF w w' (FT n₀ w) (FT n₀ w') := fun b hb _ => ⟨hF b hb, OfN.keep hb (hF b hb)⟩
  have hK0 : KeepF w w' (FT n₀ w) (FT n₀ w) := fun b hb _ => ⟨hF b hb, hb⟩
  obtain ⟨vw, A, n, c, hcc, ho, hsl⟩ := h.cells
  have hne := h.ne
  refine ⟨h.np, h.ng, h.pos, h.most, ⟨vw, A, n, c, hc _ _ _ _ hcc, ?_, hsl.keep hK⟩, ?_, h.fits, hfu, h.short⟩
  · have h1 := ho.keep hs hK0 fun b hb => by
      obtain ⟨cs, hcs⟩ := ho.typed hb
      refine hk b (ho.blk hb).2 fun e => ?_
      rw [e, hcc] at hcs
      have h1 := Option.some.inj hcs
      injection h1 with _ h2
      exact absurd h2 (by decide)
    exact h1.retypeN (by decide) (Nat.le_refl _) (by omega) fun b hb _ => OfN.keep hb (hF b hb)
  · have h1 := h.row.keep hs hK0 fun b hb => by
      cases hb
      exact hk g h.glt (fun e => hne e.symm)
    exact h1.retypeN (by decide) (Nat.le_refl _) (by omega) fun b hb _ => OfN.keep hb (hF b hb)

theorem disk_power (h : DiskAt w n₀ p g D) : Calls Try.prog 29 #[.pointer (some ⟨p, 0, none⟩)] w fun e w' => e = .returned (.tuple #[]) ∧ DiskAt w' n₀ p g { D with off := false, fuse := 0 } ∧ Fr (DC n₀ p g) w w' := by
  have HI := Lib.hid (disk_is h)
  have HH := Lib.hid h
  clear h
  go_enter Try.func29, Try.ntmps29
  go_wp2_with fail
  refine HI.out.mono ?_
  rintro e w1 ⟨rfl, hd1⟩
  have h1 := HH.out.dr hd1
  obtain ⟨vw, A, n, c, hc, ⟨c0, c1, c2, c3, c4, c5, c6⟩, hf, -, -⟩ := h1.fields
  have HC := Lib.hid hc; have H1 := Lib.hid h1
  have hf3 := hf 3
  have hf4 := hf 4
  clear hc h1 hf
  go_wp2
  go_end0
  exact ⟨rfl, H1.out.turned (by simp [World.setCell]) (fun b _ hne => by rw [Below.heap_setCell _ _ _ _ hne, Below.heap_setCell _ _ _ _ hne]) (by omega) (fun vw A n c hc => by rw [blk_setCell (blk_setCell hc _) _]; rfl),
    ((Fr.of_dr hd1).setCell (fun _ => .inl rfl) _).setCell (fun _ => .inl rfl) _⟩

/-- a store into the row of what is kept -/
theorem DiskAt.setRow (h : DiskAt w n₀ p g D) {i : Nat} (hi : i < D.kept.length) {A : Option Addr} {n c : Nat} {x : List Int} (hs : Sl Enc.u8 w (FT n₀ w) A n c x) (hx : x.length ≤ 4096) : DiskAt (w.setCell ⟨g, i, none⟩ (.slice A n c)) n₀ p g { D with kept := D.kept.set i x } := by
  have hn := h.n0
  have hgF := h.notG
  have hne := h.ne
  have hF : ∀ b, FT n₀ w b → (w.setCell ⟨g, i, none⟩ (.slice A n c)).heap[b]? = w.heap[b]? := fun b hb => Below.heap_setCell _ _ _ _ (fun e => hgF (by have e' : b = g := e; rw [← e']; exact hb))
  have hs' : (w.setCell ⟨g, i, none⟩ (.slice A n c)).heap.size = w.heap.size := by simp [World.setCell]
  have hK : KeepF w (w.setCell ⟨g, i, none⟩ (.slice A n c)) (FT n₀ w) (FT n₀ (w.setCell ⟨g, i, none⟩ (.slice A n c))) := fun b hb _ => ⟨hF b hb, OfN.keep hb (hF b hb)⟩
  have hK0 : KeepF w (w.setCell ⟨g, i, none⟩ (.slice A n c)) (FT n₀ w) (FT n₀ w) := fun b hb _ => ⟨hF b hb, hb⟩
  obtain ⟨vw, A', n', c', hcc, ho, hsl⟩ := h.cells
  have hl : (D.kept.set i x).length = D.kept.length := List.length_set
  refine ⟨h.np, h.ng, by simpa [hl] using h.pos, by simpa [hl] using h.most, ⟨vw, A', n', c', ?_, ?_, hsl.keep hK⟩, ?_, by simpa [hl] using h.fits, h.fuse, ?_, h.short.2⟩
  · rw [hl]
    exact (Below.heap_setCell _ _ _ _ (fun e => hne e)).trans hcc
  · have h1 := ho.keep (Nat.le_of_eq hs'.symm) hK0 fun b hb => Below.heap_setCell _ _ _ _ fun e => by
      obtain ⟨cs, hcs⟩ := ho.typed hb
      obtain ⟨cs', hcs'⟩ := h.gblk
      have e' : b = g := e
      rw [e', hcs'] at hcs
      have h1 := Option.some.inj hcs
      injection h1 with _ h2
      exact absurd h2 (by decide)
    exact h1.retypeN (by decide) (Nat.le_refl _) (by omega) fun b hb _ => OfN.keep hb (hF b hb)
  · rw [hl]
    have h1 := h.row.store1 rfl i hi (u := .slice A n c) (y := x) ⟨_, _, _, rfl, hs⟩
    exact h1.retypeN (by decide) (Nat.le_refl _) (by omega) fun b hb _ => OfN.keep hb (hF b hb)
  · intro y hy
    rcases List.mem_or_eq_of_mem_set hy with hy | rfl
    · exact h.short.1 y hy
    · exact hx

/-- a choice of the writes that wait, told while the disk works -/
def PredC (C : Nat → Option Obj → Prop) (w : World) (N : Nat) (f : FuncId) (lb : Array Value) (q : Nat → Bool) : Prop :=
  (∀ args w, (callFunc f args).run Try.prog w = .ok (.enter f args) w) ∧ ∀ (W : World) (i : Nat), Fr C w W → i < N → Calls Try.prog f (#[.int .i64 i] ++ lb) W fun e w' => e = .returned (.bool (q i)) ∧ Below W.heap.size W w'

theorem DiskAt.noWaits (h : DiskAt w n₀ p g D) : DiskAt (w.setCell ⟨p, 2, none⟩ (.slice none 0 0)) n₀ p g { D with waits := [] } := by
  have hn := h.n0
  have hpF := h.notP
  have hne := h.ne
  have hF : ∀ b, FT n₀ w b → (w.setCell ⟨p, 2, none⟩ (.slice none 0 0)).heap[b]? = w.heap[b]? := fun b hb => Below.heap_setCell _ _ _ _ (fun e => hpF (by have e' : b = p := e; rw [← e']; exact hb))
  have hs' : (w.setCell ⟨p, 2, none⟩ (.slice none 0 0)).heap.size = w.heap.size := by simp [World.setCell]
  have hK : KeepF w (w.setCell ⟨p, 2, none⟩ (.slice none 0 0)) (FT n₀ w) (FT n₀ (w.setCell ⟨p, 2, none⟩ (.slice none 0 0))) := fun b hb _ => ⟨hF b hb, OfN.keep hb (hF b hb)⟩
  have hK0 : KeepF w (w.setCell ⟨p, 2, none⟩ (.slice none 0 0)) (FT n₀ w) (FT n₀ w) := fun b hb _ => ⟨hF b hb, hb⟩
  obtain ⟨vw, A', n', c', hcc, ho, hsl⟩ := h.cells
  refine ⟨h.np, h.ng, h.pos, h.most, ⟨.slice none 0 0, A', n', c', ?_, ?_, hsl.keep hK⟩, ?_, by simp, h.fuse, h.short.1, by simp⟩
  · rw [blk_setCell hcc]; rfl
  · exact (Own.nil _ _ _ _).retypeN (by decide) (Nat.le_refl _) (by omega) (fun _ h => h.elim)
  · have h1 := h.row.keep (Nat.le_of_eq hs'.symm) hK0 fun b hb => by
      cases hb
      exact Below.heap_setCell _ _ _ _ (fun e => hne e.symm)
    exact h1.retypeN (by decide) (Nat.le_refl _) (by omega) fun b hb _ => OfN.keep hb (hF b hb)
set_option maxHeartbeats 1000000 in
theorem disk_settle (h : DiskAt w n₀ p g D) {f : FuncId} {lb : Array Value} {q : Nat → Bool} (hp : PredC (DC n₀ p g) w D.waits.length f lb q) :
    Calls Try.prog 71 #[.pointer (some ⟨p, 0, none⟩), .func (.func f) #[] lb] w fun e w' => e = .returned (.tuple #[]) ∧ DiskAt w' n₀ p g (settleD q D) ∧ Fr (DC n₀ p g) w w' := by
  obtain ⟨vw, A, n, c, hc, ⟨c0, c1, c2, c3, c4, c5, c6⟩, hf, ho, -⟩ := h.fields
  obtain ⟨Aw, cw, rfl, hsw⟩ := ho.sl (F' := fun _ => True) (fun _ _ => trivial) (fun _ _ => trivial)
  have hfit := h.fits
  have hmx := hsw.max
  obtain ⟨m, hm⟩ : ∃ m, D.waits.length = m := ⟨_, rfl⟩
  rw [hm] at hsw c2 hp hmx
  obtain ⟨eg, hp⟩ := hp
  have HH := Lib.hid h; have HP := Lib.hid hp; have HM := Lib.hid hm; have HS := Lib.hid hsw; have HFI := Lib.hid hfit
  clear h hc c1 c3 c4 c5 c6 hf ho hsw hp hm hfit
  go_enter Try.func71, Try.ntmps71
  go_wp2
  go_loopw [11] (fun i wr => ∃ k : Nat, k ≤ m ∧ i = .int .i64 k ∧ DiskAt wr n₀ p g { D with kept := doneTo q D.waits D.kept k } ∧ wr.cell? ⟨p, 2, none⟩ = some (.slice Aw m cw) ∧ Fr (DC n₀ p g) w wr) (fun i _ => m - (intOf i).toNat)
  case atStart => exact ⟨0, by omega, by simp, HH.out, c2, .refl _ _⟩
  case round =>
    obtain ⟨k, hk, rfl, hdk, hcw, hfr⟩ := hrel
    have hkl := HM.out
    have hsz := hfr.size
    by_cases hlt : k < m
    · have hka : k < D.waits.length := by omega
      obtain ⟨vw', A', n', c', hc', ⟨d0, -, d2, -, -, -, -⟩, hf', ho', -⟩ := hdk.fields
      rw [hcw] at d2
      injection d2 with d2
      subst d2
      obtain ⟨ad, B, m1, d1, rfl, he1, he2, hsl, hwf⟩ := ho'.entry1 k hka
      have hxf := HFI.out _ (List.getElem_mem hka)
      have hlen := doneTo_length q D.waits D.kept k
      have hsx := hdk.short.2 _ (List.getElem_mem hka)
      have hds := doneTo_succ q D.waits D.kept k
      have hst := wstep_yes (p := q) (ws := D.waits) (im := doneTo q D.waits D.kept k) (k := k)
      obtain ⟨x, hx⟩ : ∃ x, D.waits[k] = x := ⟨_, rfl⟩
      dsimp only at he1 he2 hsl hwf hxf hsx hst
      rw [hx] at he1 hsl hwf hxf hsx
      obtain ⟨x1, x2⟩ := x
      dsimp only at he1 hsl hwf hxf hsx
      obtain ⟨xn, rfl⟩ : ∃ xn : Nat, x1 = xn := ⟨x1.toNat, by omega⟩
      have HCALL := Lib.hid (HP.out (wr.alloc (.cells #[.int .i64 xn, .slice B m1 d1] 118)) k (hfr.alloc _) hlt)
      have HFR := Lib.hid hfr; have HDK := Lib.hid hdk; have HSL := Lib.hid hsl
      clear hf' ho' hc' hfr hdk hsl hwf d0
      cases hq : q k with
      | false =>
        rw [hq] at HCALL
        have HDS : Hid (doneTo q D.waits D.kept (k + 1) = doneTo q D.waits D.kept k) := Lib.hid (by rw [hds, wstep_no hq])
        clear hds hst hq hx hxf hsx hlen
        go_wp2_with fail
        refine HCALL.out.mono ?_
        rintro e w1 ⟨rfl, hb1⟩
        have HD1 := Lib.hid ((HDK.out.alloc (.cells #[.int .i64 xn, .slice B m1 d1] 118)).all hb1)
        have hcw1 : w1.cell? ⟨p, 2, none⟩ = some (.slice (some ad) m cw) := by
          have hp := HDK.out.plt
          exact ((hb1.cell (p := ⟨p, 2, none⟩) (by simp; omega)).trans (World.cell?_of_block (w := wr) (Below.heap_alloc _ _ _ hp))).trans hcw
        have HF1 := Lib.hid ((HFR.out.alloc (.cells #[.int .i64 xn, .slice B m1 d1] 118)).trans (.of_below hb1))
        go_wp2
        go_roundw
        case rel => exact ⟨k + 1, by omega, by go_num, by rw [HDS.out]; exact HD1.out, hcw1, HF1.out⟩
        case measure => simp [intOf]; omega
      | true =>
        rw [hq] at HCALL
        have HDS : Hid (doneTo q D.waits D.kept (k + 1) = (doneTo q D.waits D.kept k).set xn x2) := Lib.hid (by rw [hds, hst hq hka, hx]; simp)
        clear hds hst hq hx
        have hxk : xn < (doneTo q D.waits D.kept k).length := by omega
        go_wp2_with fail
        refine HCALL.out.mono ?_
        rintro e w1 ⟨rfl, hb1⟩
        have HD1 := Lib.hid ((HDK.out.alloc (.cells #[.int .i64 xn, .slice B m1 d1] 118)).all hb1)
        have hp := HDK.out.plt
        have hcw1 : w1.cell? ⟨p, 2, none⟩ = some (.slice (some ad) m cw) := ((hb1.cell (p := ⟨p, 2, none⟩) (by simp; omega)).trans (World.cell?_of_block (w := wr) (Below.heap_alloc _ _ _ hp))).trans hcw
        have HF1 := Lib.hid ((HFR.out.alloc (.cells #[.int .i64 xn, .slice B m1 d1] 118)).trans (.of_below hb1))
        obtain ⟨vw', A', n', c', -, ⟨d0, -, -, -, -, -, -⟩, -, -, -⟩ := HD1.out.fields
        obtain ⟨u0, hu0, hu1, -⟩ := HD1.out.row.cell1 rfl xn hxk
        have hb0 : w1.cell? ⟨wr.heap.size, 0, none⟩ = some (.int .i64 xn) := (hb1.cell (p := ⟨wr.heap.size, 0, none⟩) (by simp)).trans (by simp)
        have hb2 : w1.cell? ⟨wr.heap.size, 1, none⟩ = some (.slice B m1 d1) := (hb1.cell (p := ⟨wr.heap.size, 1, none⟩) (by simp)).trans (by simp)
        have hlb : wr.heap.size < w1.heap.size := by have := hb1.size; simp at this; omega
        dsimp only at d0 hxk
        generalize doneTo q D.waits D.kept k = L at *
        obtain ⟨l, hl⟩ : ∃ l, L.length = l := ⟨_, rfl⟩
        rw [hl] at d0 hxk
        have HXL := Lib.hid hsx
        clear hsx hxf
        go_wp2
        go_region
        go_wp2
        have HSL1 := Lib.hid (HSL.out.keep (HDK.out.data (.of_below (((Below.refl _ wr).alloc (Nat.le_refl _) _).trans (hb1.mono (by simp))))))
        go_roundw
        case rel =>
          refine ⟨k + 1, by omega, by go_num, ?_, ?_, ?_⟩
          · rw [HDS.out]
            exact (HD1.out.setRow (by rw [hl]; exact hxk) HSL1.out HXL.out).dr (.drew (.refl _))
          · exact (World.cell?_of_block (w := w1) (Below.heap_setCell _ _ _ _ (fun e => HD1.out.ne e))).trans hcw1
          · exact (HF1.out.setCell (fun _ => .inr (.inl rfl)) _).trans (.of_dr (.drew (.refl _)))
        case measure => simp [intOf]; omega
    · have hkm : k = m := by omega
      subst hkm
      obtain ⟨vw', A', n', c', hc', -, hf', -, -⟩ := hdk.fields
      have hf2 := hf' 2
      have HDK := Lib.hid hdk
      have HFR := Lib.hid hfr
      have HL := Lib.hid hkl
      clear hdk hfr hc' hf' hkl
      go_wp2
      go_end0
      refine ⟨rfl, ?_, HFR.out.setCell (fun _ => .inl rfl) _⟩
      have h1 := HDK.out.noWaits
      rw [← HL.out] at h1
      exact h1
end
end Go.Proofs.Ytdgcfgiedclmcaa
