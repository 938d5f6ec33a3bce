/- api.Space, and its readings. -/
import Derived.Test.YtdgcfgiedclmcaaP
import Derived.Test.YtdgcfgiedclmcaaO2
namespace Go.Proofs.Ytdgcfgiedclmcaa
open Go.RowKit Go.ChangeShapes Go.WideShapes Go.ChangeAt

structure Space where
  id : Int
  tenant : Int
  sectors : Int
  root : List Int
  ext : Nat
  tree : Nat
  sums : Nat
deriving DecidableEq

def Enc.space : Enc Space where
  size := 7
  rel w F vs x := ∃ Ar nr cr Ae ce At ct As cs, vs = [.int .i64 x.id, .int .i64 x.tenant, .int .i64 x.sectors, .slice Ar nr cr, .slice Ae x.ext ce, .slice At x.tree ct, .slice As x.sums cs] ∧ (Lit.int .i64 x.id).wf = true ∧ (Lit.int .i64 x.tenant).wf = true ∧ (Lit.int .i64 x.sectors).wf = true ∧
    Sl Enc.u8 w F Ar nr cr x.root ∧ x.ext ≤ 9223372036854775807 ∧ x.tree ≤ 9223372036854775807 ∧ x.sums ≤ 9223372036854775807
  pos := by omega
  len h := by obtain ⟨_, _, _, _, _, _, _, _, _, rfl, _⟩ := h; rfl
  one h u hu := by
    obtain ⟨_, _, _, _, _, _, _, _, _, rfl, _⟩ := h
    simp at hu
    rcases hu with rfl | rfl | rfl | rfl | rfl | rfl | rfl <;> rfl
  keep h k := by
    obtain ⟨Ar, nr, cr, Ae, ce, At, ct, As, cs, rfl, h1, h2, h3, h4, h5⟩ := h
    exact ⟨Ar, nr, cr, Ae, ce, At, ct, As, cs, rfl, h1, h2, h3, h4.keep k, h5⟩

set_option maxRecDepth 10000 in
theorem op_space : Opens Try.prog 77 Enc.space := by
  intro H enc W spare held fuel cs x h
  obtain ⟨hl, hf⟩ := opens_cells Try.underlying77 (by
    intro i f hf
    have hi := (Array.getElem?_eq_some_iff.1 hf).1
    simp at hi
    match i, hi with
    | 0, _ => cases hf; exact ⟨rfl, by kernel_rfl⟩
    | 1, _ => cases hf; exact ⟨rfl, by kernel_rfl⟩
    | 2, _ => cases hf; exact ⟨rfl, by kernel_rfl⟩
    | 3, _ => cases hf; exact ⟨rfl, by kernel_rfl⟩
    | 4, _ => cases hf; exact ⟨rfl, by kernel_rfl⟩
    | 5, _ => cases hf; exact ⟨rfl, by kernel_rfl⟩
    | 6, _ => cases hf; exact ⟨rfl, by kernel_rfl⟩) (by kernel_rfl) h
  match cs, hl with
  | [c0, c1, c2, c3, c4, c5, c6], _ =>
    obtain ⟨n0, y0, t0⟩ := hf 0 _ c0 rfl rfl
    obtain ⟨n1, y1, t1⟩ := hf 1 _ c1 rfl rfl
    obtain ⟨n2, y2, t2⟩ := hf 2 _ c2 rfl rfl
    obtain ⟨n3, y3, t3⟩ := hf 3 _ c3 rfl rfl
    obtain ⟨n4, y4, t4⟩ := hf 4 _ c4 rfl rfl
    obtain ⟨n5, y5, t5⟩ := hf 5 _ c5 rfl rfl
    obtain ⟨n6, y6, t6⟩ := hf 6 _ c6 rfl rfl
    obtain ⟨a0, e0, w0⟩ := op_int H enc W spare held n0 _ _ t0
    obtain ⟨a1, e1, w1⟩ := op_int H enc W spare held n1 _ _ t1
    obtain ⟨a2, e2, w2⟩ := op_int H enc W spare held n2 _ _ t2
    obtain ⟨a3, Ar, nr, cr, e3, s3⟩ := op_bytes H enc W spare held n3 _ _ t3
    obtain ⟨a4, Ae, ce, e4, b4⟩ := opens_raw Try.underlying74 H enc W spare held n4 _ _ t4
    obtain ⟨a5, At, ct, e5, b5⟩ := opens_raw Try.underlying22 H enc W spare held n5 _ _ t5
    obtain ⟨a6, As, cs, e6, b6⟩ := opens_raw Try.underlying75 H enc W spare held n6 _ _ t6
    cases e0; cases e1; cases e2; cases e3; cases e4; cases e5; cases e6
    exact ⟨⟨a0, a1, a2, a3, a4, a5, a6⟩, Ar, nr, cr, Ae, ce, At, ct, As, cs, rfl, w0, w1, w2, s3, b4, b5, b6⟩
theorem op_spaces : Opens Try.prog 72 (Enc.slice Enc.space) := opens_slice Try.underlying72 (by kernel_rfl) op_space

/-- a space's cells, as the walk asks for them -/
theorem Sl.space {w : World} {F : Nat → Prop} {A : Option Addr} {n c : Nat} {xs : List Space} (h : Sl Enc.space w F A n c xs) (i : Nat) (hi : i < xs.length) :
    ∃ ad Ar nr cr Ae ce At ct As cs, A = some ad ∧ w.cell? (ad.add (i * 7)) = some (.int .i64 xs[i].id) ∧ w.cell? ⟨(ad.add (i * 7)).block, (ad.add (i * 7)).off + 1, none⟩ = some (.int .i64 xs[i].tenant) ∧
      w.cell? ⟨(ad.add (i * 7)).block, (ad.add (i * 7)).off + 2, none⟩ = some (.int .i64 xs[i].sectors) ∧ w.cell? ⟨(ad.add (i * 7)).block, (ad.add (i * 7)).off + 3, none⟩ = some (.slice Ar nr cr) ∧
      w.cell? ⟨(ad.add (i * 7)).block, (ad.add (i * 7)).off + 4, none⟩ = some (.slice Ae xs[i].ext ce) ∧ w.cell? ⟨(ad.add (i * 7)).block, (ad.add (i * 7)).off + 5, none⟩ = some (.slice At xs[i].tree ct) ∧
      w.cell? ⟨(ad.add (i * 7)).block, (ad.add (i * 7)).off + 6, none⟩ = some (.slice As xs[i].sums cs) ∧
      Enc.space.rel w F [.int .i64 xs[i].id, .int .i64 xs[i].tenant, .int .i64 xs[i].sectors, .slice Ar nr cr, .slice Ae xs[i].ext ce, .slice At xs[i].tree ct, .slice As xs[i].sums cs] xs[i] := by
  obtain ⟨ad, vs, hA, hF, ⟨Ar, nr, cr, Ae, ce, At, ct, As, cs, rfl, h1, h2, h3, h4, h5, h6, h7⟩, hc⟩ := h.get i hi
  exact ⟨ad, Ar, nr, cr, Ae, ce, At, ct, As, cs, hA, hc 0 _ rfl, cell_fld (by omega) (hc 1 _ rfl), cell_fld (by omega) (hc 2 _ rfl), cell_fld (by omega) (hc 3 _ rfl), cell_fld (by omega) (hc 4 _ rfl), cell_fld (by omega) (hc 5 _ rfl), cell_fld (by omega) (hc 6 _ rfl),
    ⟨Ar, nr, cr, Ae, ce, At, ct, As, cs, rfl, h1, h2, h3, h4, h5, h6, h7⟩⟩
end Go.Proofs.Ytdgcfgiedclmcaa
