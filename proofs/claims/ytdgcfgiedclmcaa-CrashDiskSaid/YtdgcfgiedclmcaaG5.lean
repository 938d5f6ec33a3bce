/- Contracts of the disk: Write. -/
import Derived.Test.YtdgcfgiedclmcaaG4
import Derived.Deep.RegionLaw
namespace Go.Proofs.Ytdgcfgiedclmcaa
open Go.RowKit

theorem Try.infoWrite : (Try.prog.info? 118).map (fun i => (i.zero, i.size, i.bytes)) = some (some (.agg #[.int .i64 0, .slice none 0 0]), 2, 32) := by kernel_rfl
/-- append, as a step of a region that draws -/
theorem step_app {α : Type} {e : Enc α} {E : TypeId} {w : World} {base : Nat} {F G : Nat → Prop} {v : Value} {xs ys : List α} {A : Option Addr} {n c : Nat} {P : Program} {ops : Array Oper} {o : Oper} {a : Act} {K : Act → World → Prop} {Q : Exit → Act → World → Prop} {X : Prop}
    (hgd : o.guard = none) (so xo : Operand) (t : TypeId)
    (ho : o.op = .call { callee := .builtin .append, args := #[so, xo], argTypes := #[t, t] })
    {z : Value} {bytes : Nat} (hu : P.underlying t = some (.slice E)) (hinfo : (P.info? E).map (fun i => (i.zero, i.size, i.bytes)) = some (some z, e.size, bytes)) (hz : z.cells.size = e.size)
    (hs : a.eval so = v) (hx : a.eval xo = .slice A n c)
    (h : Own e E w base F v xs) (s : Sr e w G A n c ys) (hG : ∀ g, v.ownBlock = some g → ¬ G g) (hb : base ≤ w.heap.size) (hby : 0 < bytes) (hlen : (xs.length + n) * bytes ≤ 140737488355328)
    (hK : ∀ v1 w1, Own e E w1 base (fun b => F b ∨ (G b ∧ b < w.heap.size)) v1 (xs ++ ys) → w.grownBy w1 v.ownBlock → (v1.ownBlock = v.ownBlock ∨ v1.ownBlock = some w.heap.size) → K (a.put o.dst v1) w1) :
    if Region.wanted o (yielded ops a.tmps) = true then Oper.wp P o a w K Q else X := by
  have hw : Region.wanted o (yielded ops a.tmps) = true := by simp [Region.wanted, hgd]
  rw [if_pos hw]
  obtain ⟨v1, w1, hr, h2, h3, h4, h5⟩ := run_app (P := P) (ty := o.type) hu hinfo hz h s hG hb hby hlen
  unfold Oper.wp execOp
  simp only [ho, resolve, invoke, builtin, Sem.run_bind, Sem.run_pure, Result.andThen_ok, List.map_toArray, List.map_cons, List.map_nil, hs, hx, hr]
  exact hK v1 w1 h2 h3 h4

def writeE (D : DiskS) (s : Int) (b : List Int) : Int := if mayD D s = 0 then (if (b.length : Int) = D.size then stepE D else 2) else mayD D s
def writeD (D : DiskS) (s : Int) (b : List Int) : DiskS := if writeE D s b = 0 then { stepD D with waits := D.waits ++ [(s, b)] } else if mayD D s = 0 ∧ (b.length : Int) = D.size then stepD D else D
theorem mayD_ok {D : DiskS} {s : Int} (h : mayD D s = 0) : D.off = false ∧ 0 ≤ s ∧ s < D.kept.length := by
  unfold mayD at h
  split at h
  · cases h
  · rename_i ho
    split at h
    · cases h
    · exact ⟨by simpa using ho, by omega, by omega⟩

theorem DiskAt.setWaits {w w' : World} {n₀ p g : Nat} {D : DiskS} (h : DiskAt w n₀ p g D) {vw v' : Value} {ws' : List Entry} (hvw : w.cell? ⟨p, 2, none⟩ = some vw) (hs : w.heap.size ≤ w'.heap.size)
    (hk : ∀ b, b < w.heap.size → some b ≠ vw.ownBlock → w'.heap[b]? = w.heap[b]?) (ho' : Own Enc.entry 118 w' n₀ (FT n₀ w') v' ws') (hfit : ∀ x ∈ ws', 0 ≤ x.1 ∧ x.1 < D.kept.length) (hsh : ∀ x ∈ ws', x.2.length ≤ 4096) :
    DiskAt (w'.setCell ⟨p, 2, none⟩ v') n₀ p g { D with waits := ws' } := by
  have hn := h.n0
  have hpF := h.notP
  have hne := h.ne
  obtain ⟨vw0, A', n', c', hcc, ⟨-, -, c2, -, -, -, -⟩, -, ho, hsl⟩ := h.fields
  rw [hvw] at c2
  injection c2 with c2
  subst c2
  have hpv : some p ≠ vw.ownBlock := fun e => by
    obtain ⟨cs, hcs⟩ := ho.typed e.symm
    rw [hcc] at hcs
    have h1 := Option.some.inj hcs
    injection h1 with _ h2
    exact absurd h2 (by decide)
  have hgv : some g ≠ vw.ownBlock := fun e => by
    obtain ⟨cs, hcs⟩ := ho.typed e.symm
    obtain ⟨cs', hcs'⟩ := h.gblk
    rw [hcs'] at hcs
    have h1 := Option.some.inj hcs
    injection h1 with _ h2
    exact absurd h2 (by decide)
  have hp' : w'.heap[p]? = w.heap[p]? := hk p h.plt hpv
  have hpv' : v'.ownBlock ≠ some p := fun e => by
    obtain ⟨cs, hcs⟩ := ho'.typed e
    rw [hp', hcc] at hcs
    have h1 := Option.some.inj hcs
    injection h1 with _ h2
    exact absurd h2 (by decide)
  have hpF' : ¬ FT n₀ w' p := FT.not h.np (hp'.trans hcc) (by decide)
  have hss : (w'.setCell ⟨p, 2, none⟩ v').heap.size = w'.heap.size := by simp [World.setCell]
  have hF : ∀ b, FT n₀ w b → (w'.setCell ⟨p, 2, none⟩ v').heap[b]? = w.heap[b]? := fun b hb =>
    (Below.heap_setCell _ _ _ _ (fun e => hpF (by have e' : b = p := e; rw [← e']; exact hb))).trans (hk b (hb.lt hn) (fun e => ho.not b e.symm hb))
  have hF' : ∀ b, FT n₀ w' b → (w'.setCell ⟨p, 2, none⟩ v').heap[b]? = w'.heap[b]? := fun b hb => Below.heap_setCell _ _ _ _ (fun e => hpF' (by have e' : b = p := e; rw [← e']; exact hb))
  have hK : KeepF w (w'.setCell ⟨p, 2, none⟩ v') (FT n₀ w) (FT n₀ (w'.setCell ⟨p, 2, none⟩ v')) := fun b hb _ => ⟨hF b hb, OfN.keep hb (hF b hb)⟩
  have hK0 : KeepF w (w'.setCell ⟨p, 2, none⟩ v') (FT n₀ w) (FT n₀ w) := fun b hb _ => ⟨hF b hb, hb⟩
  have hK0' : KeepF w' (w'.setCell ⟨p, 2, none⟩ v') (FT n₀ w') (FT n₀ w') := fun b hb _ => ⟨hF' b hb, hb⟩
  refine ⟨h.np, h.ng, h.pos, h.most, ⟨v', A', n', c', ?_, ?_, hsl.keep hK⟩, ?_, hfit, h.fuse, h.short.1, hsh⟩
  · rw [blk_setCell (hp'.trans hcc)]; rfl
  · have h1 := ho'.keep (Nat.le_of_eq hss.symm) hK0' fun b hb => Below.heap_setCell _ _ _ _ (fun e => hpv' (by have e' : b = p := e; rw [← e']; exact hb))
    exact h1.retypeN (by decide) (Nat.le_refl _) (by omega) fun b hb _ => OfN.keep hb (hF' b hb)
  · have h1 := h.row.keep (by omega) hK0 fun b hb => by
      cases hb
      exact (Below.heap_setCell _ _ _ _ (fun e => hne e.symm)).trans (hk g h.glt hgv)
    exact h1.retypeN (by decide) (Nat.le_refl _) (by omega) fun b hb _ => OfN.keep hb (hF b hb)

section
variable {w : World} {n₀ p g : Nat} {D : DiskS} {A : Option Addr} {n c : Nat} {s : Int} {b : List Int}
set_option maxHeartbeats 1000000 in
theorem disk_write (h : DiskAt w n₀ p g D) (hs : Sl Enc.u8 w (FT n₀ w) A n c b) (hsz : D.size ≤ 4096) (hw : D.waits.length ≤ 1000000) :
    Calls Try.prog 25 #[.pointer (some ⟨p, 0, none⟩), .int .i64 s, .slice A n c] w fun e w' => e = .returned (.int .i64 (writeE D s b)) ∧ DiskAt w' n₀ p g (writeD D s b) ∧ Fr (DC n₀ p g) w w' := by
  have HM := Lib.hid (disk_may h s)
  have HS := Lib.hid fun (W : World) (hd : Dr w W) => disk_step (h.dr hd)
  have hln := hs.len
  have HF := Lib.hid fun (W : World) (hd : Dr w W) => (h.dr hd).fields
  by_cases hm : mayD D s = 0
  · rw [hm] at HM
    obtain ⟨hoff, hs0, hs1⟩ := mayD_ok hm
    by_cases hl : (b.length : Int) = D.size
    · have hneS : (((n : Nat) : Int) != D.size) = false := by rw [← hl, hln]; simp
      by_cases h1 : D.fuse = 1
      · rw [show stepE D = 40 by simp [stepE, h1]] at HS
        rw [show writeE D s b = 40 by simp [writeE, hm, hl, stepE, h1], show writeD D s b = stepD D by simp [writeD, writeE, hm, hl, stepE, h1]]
        clear h hs hw hm hoff hs0 hs1 hl h1
        generalize stepD D = E at *
        go_enter Try.func25, Try.ntmps25
        go_wp2_with fail
        refine HM.out.mono ?_
        rintro e w1 ⟨rfl, hd1⟩
        obtain ⟨vw, A', n', c', -, ⟨-, c1, -, -, -, -, -⟩, -, -, -⟩ := HF.out w1 hd1
        have HS1 := Lib.hid (HS.out w1 hd1)
        go_wp2_with fail
        refine HS1.out.mono ?_
        rintro e w2 ⟨rfl, hk2, hf2⟩
        have HK2 := Lib.hid hk2; have HF2 := Lib.hid hf2
        clear hk2 hf2 HS
        go_wp2
        go_ret
        exact ⟨rfl, HK2.out, (Fr.of_dr hd1).trans HF2.out⟩
      · rw [show stepE D = 0 by simp [stepE, h1]] at HS
        rw [show writeE D s b = 0 by simp [writeE, hm, hl, stepE, h1], show writeD D s b = { stepD D with waits := D.waits ++ [(s, b)] } by simp [writeD, writeE, hm, hl, stepE, h1]]
        have hkl : (stepD D).kept.length = D.kept.length := by simp [stepD, h1]
        have hwl : (stepD D).waits = D.waits := by simp [stepD, h1]
        have hwf : (Lit.int .i64 s).wf = true := WalkArith.wf_i64 (by have := h.most; omega)
        have HB := Lib.hid (show b.length ≤ 4096 by omega)
        have HSS := Lib.hid fun (W : World) (hf : Fr (DC n₀ p g) w W) => hs.keep (h.data hf); have HWF := Lib.hid hwf; have HWL := Lib.hid hwl; have HS01 := Lib.hid (show 0 ≤ s ∧ s < (stepD D).kept.length by omega)
        have hnb : n ≤ 4096 := by omega
        clear h hs hm hoff hs0 hs1 hl h1 hkl hwl hwf
        generalize stepD D = E at *
        obtain ⟨ws, hws⟩ : ∃ ws, D.waits = ws := ⟨_, rfl⟩
        rw [hws] at HWL hw ⊢
        clear hws
        go_enter Try.func25, Try.ntmps25
        go_wp2_with fail
        refine HM.out.mono ?_
        rintro e w1 ⟨rfl, hd1⟩
        obtain ⟨vw, A', n', c', -, ⟨-, c1, -, -, -, -, -⟩, -, -, -⟩ := HF.out w1 hd1
        have HS1 := Lib.hid (HS.out w1 hd1)
        go_wp2_with fail
        refine HS1.out.mono ?_
        rintro e w2 ⟨rfl, hk2, hf2⟩
        have hf02 := (Fr.of_dr hd1).trans hf2
        have HD2 := Lib.hid (HSS.out w2 hf02)
        have HCL := Lib.hid fun (W : World) (hb : Below w2.heap.size w2 W) => clone_bytes (HD2.out.all hb) (by omega)
        obtain ⟨vw2, A2, n2, c2, hc2, ⟨-, -, e2, -, -, -, -⟩, hfz, ho2, -⟩ := hk2.fields
        obtain ⟨Aw, cw, rfl, -, -⟩ := ho2.form
        rw [HWL.out] at ho2 e2
        have hp2 := hk2.plt
        have hp2' := hk2.np
        have HPV : Hid (some p ≠ (Value.slice Aw ws.length cw).ownBlock) := Lib.hid fun e => by
          obtain ⟨cs, hcs⟩ := ho2.typed e.symm
          rw [hc2] at hcs
          have h1 := Option.some.inj hcs
          injection h1 with _ h2
          exact absurd h2 (by decide)
        have z2 := hfz 2
        have HE2 := Lib.hid fun (W : World) (hb : Below w2.heap.size w2 W) => (hb.cell (p := ⟨p, 2, none⟩) hp2).trans e2
        have HFZ := Lib.hid fun (W : World) (hb : Below w2.heap.size w2 W) => (hb.frozen (p := ⟨p, 2, none⟩) hp2).trans (hfz 2)
        have HO2 := Lib.hid ho2; have HK2 := Lib.hid hk2; have HF2 := Lib.hid hf02
        clear hk2 hf2 hc2 hfz ho2 hf02 HS HS1 HF HM HSS
        go_wp2
        go_region_law (first
          | (go_simp; go_at_call 70; refine (HCL.out _ (Below.refl _ _).drew).mono ?_
             rintro e w3 ⟨v3, rfl, ho3, hb3⟩
             have hb3' : Below w2.heap.size w2 w3 := (Below.refl _ w2).drew.trans hb3
             have e3 := HE2.out w3 hb3'
             obtain ⟨A3, c3, ev3, hs3⟩ := ho3.sl (F' := FT n₀ w3) (fun _ h => h.elim) (fun j hj => .inr (by obtain ⟨cs, hcs⟩ := ho3.typed hj; exact ⟨cs, _, _, hcs, by decide⟩))
             rw [hln] at ev3 hs3
             subst ev3
             have HS3 := Lib.hid hs3
             have HO3 := Lib.hid ((HO2.out.all hb3').retypeN (n₀ := n₀) (ts := [5, 4]) (by decide) (Nat.le_refl _) (by have := hb3'.size; omega) fun j hj _ => OfN.keep hj (hb3'.block j (FT.lt (by omega) hj)))
             have HB3 := Lib.hid hb3'
             have hl3 := hb3'.size
             have hpl3 : p < w3.heap.size := by omega
             clear ho3 hs3 hb3 hb3')
          | (refine step_app rfl _ _ 112 rfl (e := Enc.entry) (E := 118) (base := n₀) Try.underlying112 Try.infoWrite rfl rfl rfl (HO3.out.alloc _) (Sr.box (e := Enc.entry) (G := FT n₀ w3) (y := (s, b)) ⟨[.int .i64 s], [_], rfl, ⟨rfl, HWF.out⟩, ⟨_, _, _, rfl, HS3.out⟩⟩ _) HO3.out.not ?_ (by decide) ?_ ?_
             · exact le_alloc (by omega)
             · omega
             intro v5 w5 ho5 hg5 hat5
             have hp5 : w5.heap[p]? = w2.heap[p]? := (hg5.block p (by simp only [World.size_alloc]; omega) HPV.out).trans ((Below.heap_alloc _ _ _ (by omega)).trans (HB3.out.block p hp2))
             have e5 : w5.cell? ⟨p, 2, none⟩ = some (.slice Aw ws.length cw) := (World.cell?_of_block (w := w2) hp5).trans e2
             have z5 : w5.frozen? ⟨p, 2, none⟩ = false := (World.frozen?_of_block (w := w2) hp5).trans z2
             obtain ⟨A5, c5, ev5, -⟩ := ho5.form
             rw [show (ws ++ [(s, b)]).length = ws.length + 1 by simp] at ev5
             subst ev5
             have HG5 := Lib.hid hg5
             have HO5 := Lib.hid ho5
             have hs5 := hg5.size
             try simp only [World.size_alloc] at hs5
             clear hp5 ho5 hg5 hat5))
        all_goals
          go_wp2
          go_ret
          have hpos := HK2.out.n0
          have hS := HK2.out.setWaits (vw := .slice Aw ws.length cw) (v' := .slice A5 (ws.length + 1) c5) (ws' := ws ++ [(s, b)]) (w' := w5) e2 (by omega)
            (fun j hj hne => (HG5.out.block j (by simp only [World.size_alloc]; omega) hne).trans ((Below.heap_alloc _ _ _ (by omega)).trans (HB3.out.block j hj)))
            (HO5.out.retypeN (by decide) (Nat.le_refl _) (by omega) fun j hj _ => by
              have hj' : FT n₀ w3 j := by rcases hj with h | h; exact h; exact h.1
              have hjl := hj'.lt (by omega)
              exact OfN.keep hj' ((HG5.out.block j (by simp only [World.size_alloc]; omega) (fun e => HO3.out.not j e.symm hj')).trans (Below.heap_alloc _ _ _ hjl)))
            (fun x hx => by
              rcases List.mem_append.1 hx with hx | hx
              · exact HK2.out.fits x (by rw [HWL.out]; exact hx)
              · simp at hx; subst hx; exact HS01.out)
            (fun x hx => by
              rcases List.mem_append.1 hx with hx | hx
              · exact HK2.out.short.2 x (by rw [HWL.out]; exact hx)
              · simp at hx; subst hx; exact HB.out)
          refine ⟨rfl, hS, HF2.out.trans (Fr.setCell ⟨?_, ?_, ?_, ?_, ?_⟩ (fun _ => .inl rfl) _)⟩
          · exact HG5.out.os.trans HB3.out.os
          · exact HG5.out.tape.trans HB3.out.tape
          · exact HG5.out.output.trans HB3.out.output
          · omega
          · intro j hj hC
            exact (HG5.out.block j (by simp only [World.size_alloc]; omega) (fun e => hC (by
              obtain ⟨cs, hcs⟩ := HO2.out.typed e.symm
              exact .inr (.inr ⟨(HO2.out.blk e.symm).1, cs, _, hcs⟩)))).trans ((Below.heap_alloc _ _ _ (by omega)).trans (HB3.out.block j hj))
    · have hneS : (((n : Nat) : Int) != D.size) = true := by
        have : ¬ ((n : Nat) : Int) = D.size := by rw [← hln]; exact hl
        simpa using this
      rw [show writeE D s b = 2 by simp [writeE, hm, hl], show writeD D s b = D by simp [writeD, writeE, hm, hl]]
      have HH := Lib.hid h
      clear h hs hw hm hoff hs0 hs1 hl HS
      go_enter Try.func25, Try.ntmps25
      go_wp2_with fail
      refine HM.out.mono ?_
      rintro e w1 ⟨rfl, hd1⟩
      obtain ⟨vw, A', n', c', -, ⟨-, c1, -, -, -, -, -⟩, -, -, -⟩ := HF.out w1 hd1
      go_wp2
      go_ret
      exact ⟨rfl, HH.out.dr hd1, .of_dr hd1⟩
  · have hne : (mayD D s != 0) = true := by simpa using hm
    rw [show writeE D s b = mayD D s by simp [writeE, hm], show writeD D s b = D by simp [writeD, writeE, hm]]
    have HH := Lib.hid h
    clear h hs hw hm HS HF
    generalize mayD D s = r at *
    go_enter Try.func25, Try.ntmps25
    go_wp2_with fail
    refine HM.out.mono ?_
    rintro e w1 ⟨rfl, hd1⟩
    go_wp2
    go_ret
    exact ⟨rfl, HH.out.dr hd1, .of_dr hd1⟩
end
end Go.Proofs.Ytdgcfgiedclmcaa
