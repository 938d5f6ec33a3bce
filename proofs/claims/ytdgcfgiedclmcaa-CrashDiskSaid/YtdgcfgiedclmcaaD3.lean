/- Contract: crash.Outcomes. -/
import Derived.Test.YtdgcfgiedclmcaaD1
import Derived.Test.YtdgcfgiedclmcaaD2
namespace Go.Proofs.Ytdgcfgiedclmcaa
open Go.RowKit
attribute [local go_sem] Oper.semAt_some

theorem Try.infoRows : (Try.prog.info? 22).map (fun i => (i.zero, i.size, i.bytes)) = some (some (.slice none 0 0), 1, 24) := by kernel_rfl

def outStep (ws : List Entry) (im : List (List Int)) (out : List (List (List Int))) (i : Nat) : List (List (List Int)) := if out.any (fun Y => decide (imgN ws im i = Y)) then out else out ++ [imgN ws im i]
/-- the images of the first k choices, each once -/
def outTo (ws : List Entry) (im : List (List Int)) (k : Nat) : List (List (List Int)) := (List.range k).foldl (outStep ws im) []
theorem outTo_succ (ws : List Entry) (im : List (List Int)) (k : Nat) : outTo ws im (k + 1) = outStep ws im (outTo ws im k) k := by simp [outTo, List.range_succ, List.foldl_append]
theorem outTo_length (ws : List Entry) (im : List (List Int)) (k : Nat) : (outTo ws im k).length ≤ k := by
  induction k with
  | zero => simp [outTo]
  | succ k ih => rw [outTo_succ]; unfold outStep; split <;> (try simp) <;> omega
def outE (im : List (List Int)) (ws : List Entry) : Int := if mayE im.length ws = 0 then (if 10 < ws.length then 3 else 0) else mayE im.length ws
def outR (im : List (List Int)) (ws : List Entry) : List (List (List Int)) := if outE im ws = 0 then outTo ws im (2 ^ ws.length) else []

/-- what a loop over a function keeps of the images that were collected: the variable's box, its row -/
def OutI (w : World) (bo n₁ : Nat) (L : List (List (List Int))) (W : World) : Prop :=
  ∃ v, W.heap[bo]? = some (.cells #[v] 26 (0, 0)) ∧ Own (Enc.slice Enc.bytes) 22 W n₁ (OfT W [38, 5]) v L ∧ Below w.heap.size w W
theorem OutI.keep {w : World} {bo n₁ : Nat} {L : List (List (List Int))} {W W' : World} (h : OutI w bo n₁ L W) (hs : W.heap.size ≤ W'.heap.size) (hk : ∀ b, Bc W b → W'.heap[b]? = W.heap[b]?) (hb : Below w.heap.size w W') : OutI w bo n₁ L W' := by
  obtain ⟨v, h1, h2, _⟩ := h
  have hK : KeepF W W' (OfT W [38, 5]) (OfT W [38, 5]) := fun b hb' hl => ⟨hk b hl, hb'⟩
  have h3 := h2.keep hs hK fun g hg => by obtain ⟨cs, hcs⟩ := h2.typed hg; exact hk g ⟨cs, _, _, hcs⟩
  refine ⟨v, (hk bo ⟨_, _, _, h1⟩).trans h1, h3.retype (by decide) fun b hb' hl => hb'.keep (hk b ?_), hb⟩
  obtain ⟨cs, t, fr, h, _⟩ := hb'
  exact ⟨cs, t, fr, h⟩

theorem cell_of_blk {W : World} {b : Nat} {v : Value} {t : TypeId} {fr : Nat × Nat} (h : W.heap[b]? = some (.cells #[v] t fr)) : W.cell? ⟨b, 0, none⟩ = some v := by simp [World.cell?, h]
theorem frozen_of_blk {W : World} {b : Nat} {v : Value} {t : TypeId} (h : W.heap[b]? = some (.cells #[v] t (0, 0))) : W.frozen? ⟨b, 0, none⟩ = false := by simp [World.frozen?, h]
theorem keepsOthers_of_below {W W' : World} (h : Below W.heap.size W W') : KeepsOthers W W' := ⟨h.size, fun k _ hk _ => (h.block k (Array.getElem?_eq_some_iff.1 hk).1).trans hk⟩

theorem blk_set1 {w : World} {b : Nat} {v u : Value} {t : TypeId} {fr : Nat × Nat} (h : w.heap[b]? = some (.cells #[v] t fr)) : (w.setCell ⟨b, 0, none⟩ u).heap[b]? = some (.cells #[u] t fr) := by
  simp [World.setCell, Array.getElem?_modify, h]
theorem out_box {W w3 w4 : World} {bo base : Nat} {t E : TypeId} {v : Value} {o : Obj} {α : Type} {e : Enc α} {L : List α} {ts : List TypeId} (hv : W.heap[bo]? = some (.cells #[v] t (0, 0))) (h : Own e E W base (OfT W ts) v L) (hd : Below W.heap.size W w3)
    (hg : (w3.alloc o).grownBy w4 v.ownBlock) (hb : bo < base := by omega) : w4.heap[bo]? = some (.cells #[v] t (0, 0)) ∧ w4.cell? ⟨bo, 0, none⟩ = some v ∧ w4.frozen? ⟨bo, 0, none⟩ = false := by
  have hl : bo < W.heap.size := (Array.getElem?_eq_some_iff.1 hv).1
  have hs := hd.size
  have h1 : w4.heap[bo]? = some (.cells #[v] t (0, 0)) := by
    refine (hg.block bo (by simp; omega) (fun e => ?_)).trans ((Below.heap_alloc _ _ _ (by omega)).trans ((hd.block bo hl).trans hv))
    have := (h.blk e.symm).1
    omega
  exact ⟨h1, cell_of_blk h1, frozen_of_blk h1⟩

section
variable {w : World} {F G H : Nat → Prop} {A B D : Option Addr} {n c m d : Nat}
set_option maxRecDepth 100000 in
set_option maxHeartbeats 1000000 in
theorem outcomes_few {im : List (List Int)} {ws : List Entry} (h : Sl Enc.bytes w F A n c im) (g : Sl Enc.entry w G B m d ws) (h0 : mayE n ws = 0) (hm : m ≤ 10)
    (hn : n ≤ 4096) (hi : ∀ x ∈ im, x.length ≤ 4096) (hw : ∀ x ∈ ws, x.2.length ≤ 4096) :
    Calls Try.prog 14 #[.slice A n c, .slice B m d] w fun e w' => Below w.heap.size w w' ∧ ∃ A' c', e = .returned (.tuple #[.slice A' (outTo ws im (2 ^ m)).length c', .int .i64 0]) ∧
      Sl (Enc.slice Enc.bytes) w' (fun _ => True) A' (outTo ws im (2 ^ m)).length c' (outTo ws im (2 ^ m)) := by
  have HM := Lib.hid (may_any (s := (n : Int)) g)
  rw [h0] at HM
  have hin : ∀ x ∈ ws, 0 ≤ x.1 ∧ x.1 < n := by
    intro x hx
    have : ws.all (inSectors n) = true := by
      cases ha : ws.all (inSectors n) with
      | true => rfl
      | false => simp [mayE, ha] at h0
    have := List.all_eq_true.1 this x hx
    simpa [inSectors] using this
  have HH := Lib.hid h.old; have HG := Lib.hid g.old; have HIN := Lib.hid hin; have HI := Lib.hid hi; have HW := Lib.hid hw
  clear h g hin hi hw h0
  have hm10 : decide (10 < (m : Int)) = false := by simp; omega
  refine (callsIn_wide (n := 3)).1 (callsIn_of_wp_marks Try.func14 rfl trivial ?_ rfl)
  simp only [Try.ntmps14, List.size_toArray, List.length_cons, List.length_nil, Nat.reduceAdd, Nat.reduceSub, Array.replicate_succ, Array.replicate_zero, List.push_toArray, List.append_toArray, List.nil_append, List.cons_append]
  gi_wp2_with (refine ⟨trivial, ?_⟩; gi_at_call 58; refine (callsIn_wide.2 HM.out).mono ?_; rintro e w1 ⟨rfl, hd1⟩; have hsz1 := hd1.size)
  gi_wp2_with (refine ⟨trivial, ?_⟩; gi_at_call 59; refine (callsIn_wide.2 (all_any _)).mono ?_; rintro e w2 ⟨rfl, rfl⟩)
  have hb1 : Below w.heap.size w w1 := hd1
  have hrw := hd1
  -- the worlds: the variable's box, what the iterator captured
  have hbo : Below w1.heap.size w1 (((w1.alloc (.cells #[.slice none 0 0] 26)).alloc (.cells #[.slice A n c] 22)).alloc (.cells #[.slice B m d] 23)) :=
    (((Below.refl _ w1).alloc (Nat.le_refl _) _).alloc (by simp) _).alloc (by simp; omega) _
  have hS : ∃ W0, (((w1.alloc (.cells #[.slice none 0 0] 26)).alloc (.cells #[.slice A n c] 22)).alloc (.cells #[.slice B m d] 23)) = W0 := ⟨_, rfl⟩
  obtain ⟨W0, hW0⟩ := hS
  have hsz0 : W0.heap.size = w1.heap.size + 3 := by rw [← hW0]; simp
  have hcb : W0.heap[w1.heap.size]? = some (.cells #[.slice none 0 0] 26 (0, 0)) := by
    rw [← hW0]; exact (Below.heap_alloc _ _ _ (by simp; omega)).trans ((Below.heap_alloc _ _ _ (by simp)).trans (World.alloc_heap_new w1 _))
  have hci : W0.cell? ⟨w1.heap.size + 1, 0, none⟩ = some (.slice A n c) := by
    refine cell_of_blk (t := 22) (fr := (0, 0)) ?_
    rw [← hW0]
    refine (Below.heap_alloc _ _ _ (by simp)).trans ?_
    have := World.alloc_heap_new (w1.alloc (.cells #[.slice none 0 0] 26)) (.cells #[.slice A n c] 22)
    rwa [World.size_alloc] at this
  have hcw : W0.cell? ⟨w1.heap.size + 2, 0, none⟩ = some (.slice B m d) := by
    refine cell_of_blk (t := 23) (fr := (0, 0)) ?_
    rw [← hW0]
    have := World.alloc_heap_new ((w1.alloc (.cells #[.slice none 0 0] 26)).alloc (.cells #[.slice A n c] 22)) (.cells #[.slice B m d] 23)
    rwa [World.size_alloc, World.size_alloc] at this
  rw [hW0] at hbo ⊢
  have HSEQ := Lib.hid (all_seq (w := W0) (n₀ := w1.heap.size + 3) (bx := w1.heap.size) hci hcw (by omega) (by omega) (by omega) (by omega) (by omega)
    ((HH.out.all (hb1.trans (hbo.mono hsz1))).keep (.weaken _ fun b hb _ => by omega)) ((HG.out.all (hb1.trans (hbo.mono hsz1))).keep (.weaken _ fun b hb _ => by omega)) HIN.out hn hm HI.out HW.out)
  have hbW0 : Below w.heap.size w W0 := hb1.trans (hbo.mono hsz1)
  have HI0 : Hid (OutI w w1.heap.size (w1.heap.size + 3) [] W0) := Lib.hid ⟨_, hcb, (Own.nil _ _ _ _).retype (by decide) (fun _ h => h.elim), hbW0⟩
  clear hcb hci hcw hW0 HH HG HIN HI HW HM hd1
  refine wpIn_range_mem rfl (by omega) rfl trivial (enters_of Try.func103 (by kernel_rfl) rfl) HSEQ.out (by omega)
    (fun pre W => OutI w w1.heap.size (w1.heap.size + 3) (outTo ws im pre.length) W)
    (fun s X Y hs hb => hs.keep hb.size (fun b hl => hb.block b hl.lt) (hs.choose_spec.2.2.trans (hb.mono (by have := hs.choose_spec.2.2.size; omega))))
    (fun s W l o o' hs hl hlo ho => hs.keep (by simp [World.putObj]) (fun b hl' => World.putObj_heap_other (fun e => by obtain ⟨cs, t, fr, h⟩ := hl'; rw [e, hlo] at h; cases h; cases ho))
      (hs.choose_spec.2.2.trans ⟨rfl, rfl, rfl, by simp [World.putObj], fun k hk => World.putObj_heap_other (by omega)⟩))
    HI0.out
    (fun W x => { tmps := #[.slice A n c, .slice B m d, undef, undef, .slice none 0 0, .int .i64 0, .int .i64 0, .pointer (some ⟨w1.heap.size, 0, none⟩), .pointer (some ⟨W.heap.size, 0, none⟩), .slice A n c, .int .i64 n, .slice B m d, .int .i64 0, .int .i64 0, .bool false, undef, .slice B m d, .int .i64 m, .bool false, .slice A n c, .slice B m d, .func (.func 103) #[] #[.pointer (some ⟨w1.heap.size + 1 + 1, 0, none⟩), .pointer (some ⟨w1.heap.size + 1, 0, none⟩)], x.val, undef, undef, undef, undef, undef, undef, undef, undef, undef], defers := [] })
    (fun x W => W.alloc (.cells #[x.val] 22)) (fun x W => (Below.refl _ W).alloc (Nat.le_refl _) _) ?assign ?body ?done
  case assign =>
    intro l pre x W K hi hR hK
    dsimp only [SlV.val] at hK ⊢
    gi_wp2
    exact hK
  case body =>
    rintro l pre x W o o' hi hR hlo ho ho' hl
    obtain ⟨v, hv, hown, hbW⟩ := hi
    obtain ⟨hpl, hR⟩ := hR
    have hszW := hbW.size
    have hbol : w1.heap.size < W.heap.size := (Array.getElem?_eq_some_iff.1 hv).1
    have hll := (Array.getElem?_eq_some_iff.1 hlo).1
    -- the world in which the body begins
    have hg : Below W.heap.size W (W.alloc (.cells #[x.val] 22)) := (Below.refl _ W).alloc (Nat.le_refl _) _
    have hlg : (W.alloc (.cells #[x.val] 22)).heap[l]? = some o := (hg.block l hll).trans hlo
    obtain ⟨Wb, hWb⟩ : ∃ Wb, (W.alloc (.cells #[x.val] 22)).putObj l o' = Wb := ⟨_, rfl⟩
    have hblk : ∀ b, b < W.heap.size → b ≠ l → Wb.heap[b]? = W.heap[b]? := fun b hb hne => by rw [← hWb]; exact (World.putObj_heap_other hne).trans (hg.block b hb)
    have hszb : Wb.heap.size = W.heap.size + 1 := by rw [← hWb]; simp [World.putObj]
    have hvb : Wb.heap[w1.heap.size]? = some (.cells #[v] 26 (0, 0)) := (hblk _ hbol (by omega)).trans hv
    have hxb : Wb.cell? ⟨W.heap.size, 0, none⟩ = some x.val := cell_of_blk (t := 22) (fr := (0, 0)) (by rw [← hWb]; exact (World.putObj_heap_other (by omega)).trans (World.alloc_heap_new W _))
    have hbb : Below w.heap.size w Wb := by
      rw [← hWb]
      exact (hbW.trans (hg.mono hszW)).trans ⟨rfl, rfl, rfl, by simp [World.putObj], fun k hk => World.putObj_heap_other (by omega)⟩
    have hK : ∀ F, KeepF W Wb F F := fun F => .obj hlo (fun cs t fr e => by rw [e] at ho; cases ho) (by
      intro b hb hne
      exact hblk b hb hne) F
    have hob := hown.keep (w' := Wb) (by omega) (hK _) (fun g hg => hblk g (hown.blk hg).2 (fun e => by
      obtain ⟨cs, hcs⟩ := hown.typed hg
      rw [e, hlo] at hcs; cases hcs; cases ho))
    replace hob := hob.retype (ts := [38, 5]) (by decide) fun b hb _ => hb.keep (hblk b hb.lt (fun e => by
      obtain ⟨cs, t, fr, h1, _⟩ := hb
      rw [e, hlo] at h1; cases h1; cases ho))
    have hxs : Sl Enc.bytes Wb (OfT Wb [38, 5]) x.a x.n x.c (imgN ws im pre.length) := hR.keep fun b hb hl' => by
      have hne : b ≠ l := fun e => by
        obtain ⟨cs, t, fr, h1, _⟩ := hb
        rw [e, hlo] at h1; cases h1; cases ho
      exact ⟨hblk b hb.lt hne, hb.keep (hblk b hb.lt hne)⟩
    have hLl : (outTo ws im pre.length).length ≤ 1024 := Nat.le_trans (outTo_length ws im pre.length) hpl
    have hsucc := outTo_succ ws im pre.length
    unfold outStep at hsucc
    rw [show (pre ++ [x]).length = pre.length + 1 by simp]
    obtain ⟨Ao, co, rfl, hso⟩ := hob.sl (F' := fun _ => True) (fun _ _ => trivial) (fun _ _ => trivial)
    have HC := Lib.hid (contains_images hso (outcomes_pred (fun _ => True) hxb hxs))
    have hcv := cell_of_blk hvb
    have hfv := frozen_of_blk hvb
    dsimp only [SlV.val] at hxb ⊢
    rw [show (W.alloc (.cells #[.slice x.a x.n x.c] 22)).putObj l o' = Wb from hWb]
    generalize outTo ws im pre.length = L at *
    generalize outTo ws im (pre.length + 1) = L' at *
    generalize imgN ws im pre.length = X at *
    have HL' := Lib.hid hsucc
    have HLl := Lib.hid hLl
    have HOB := Lib.hid hob
    have HXS := Lib.hid hxs
    have HVB := Lib.hid hvb
    clear hsucc hob hxs hso hvb hblk hK hWb hlg hlo hR hown hv
    have hxbl : W.heap.size < Wb.heap.size := by omega
    have hbol' : w1.heap.size < Wb.heap.size := by omega
    cases hq : L.any (fun Y => decide (X = Y)) with
    | true =>
      rw [hq] at HC
      have HQ : Hid (L' = L) := Lib.hid (by rw [HL'.out, if_pos hq])
      clear hq
      gi_wp2_with (refine ⟨trivial, ?_⟩; gi_at_call 60; refine (callsIn_wide.2 HC.out).mono ?_; rintro e w3 ⟨rfl, hd3⟩)
      refine ⟨keepsOthers_of_below hd3, .of_below hd3 (by omega), ?_⟩
      rw [HQ.out]
      exact OutI.keep ⟨_, HVB.out, HOB.out, hbb⟩ hd3.size (fun b hl => hd3.block b hl.lt) (hbb.trans (hd3.mono (by omega)))
    | false =>
      rw [hq] at HC
      have HQ : Hid (L' = L ++ [X]) := Lib.hid (by rw [HL'.out, if_neg (by rw [hq]; decide)])
      clear hq
      gi_wp2_with (first | (refine ⟨trivial, ?_⟩; gi_at_call 60; refine (callsIn_wide.2 HC.out).mono ?_; rintro e w3 ⟨rfl, hd3⟩; have hcv3 := (hd3.cell (p := ⟨w1.heap.size, 0, none⟩) hbol').trans hcv; have hfv3 := (hd3.frozen (p := ⟨w1.heap.size, 0, none⟩) hbol').trans hfv; have hxb3 := (hd3.cell (p := ⟨W.heap.size, 0, none⟩) hxbl).trans hxb; have hs3 := hd3.size) | (gi_at_builtin; refine wplIn_app (e := Enc.slice Enc.bytes) (E := 22) (base := w1.heap.size + 3) rfl _ _ 26 rfl Try.underlying26 Try.infoRows rfl rfl rfl ((HOB.out.all hd3).alloc _) (Sr.box (e := Enc.slice Enc.bytes) (y := X) ⟨_, _, _, rfl, HXS.out.all hd3⟩ _) (HOB.out.all hd3).not (by simp; omega) (by omega) (by omega) ?_; intro v1 w4 ho1 hg1 hat1 _; obtain ⟨hv4, hcv4, hfv4⟩ := out_box (ts := [38, 5]) HVB.out HOB.out hd3 hg1; obtain ⟨A4, c4, rfl, -⟩ := ho1.form))
      rw [HQ.out]
      have HVB4 := hv4
      have hs4 := hg1.size
      simp at hs4
      have hrow : ∀ g, (Value.slice Ao L.length co).ownBlock = some g → w1.heap.size + 3 ≤ g := fun g hg => (HOB.out.blk hg).1
      have hba : Below w.heap.size w (w3.alloc (.cells #[.slice x.a x.n x.c] 22)) := (hbb.trans (hd3.mono (by omega))).alloc (by omega) _
      have hb4 : Below w.heap.size w w4 := hba.grown hg1 (by simp; omega) (fun k hk => by have := hrow k hk; omega)
      refine ⟨?_, ?_, ?_⟩
      · exact ((keepsOthers_of_below hd3).trans (KeepsOthers.alloc _ _)).trans ((KeepsOthers.of_grownBy hg1 (fun j o hj ho => by
          obtain ⟨cs, hcs⟩ := ((HOB.out.all hd3).alloc (.cells #[.slice x.a x.n x.c] 22)).typed hj
          rw [hcs] at ho; cases ho; rfl)).trans (KeepsOthers.setCell _ _ _))
      · exact (((Bx.of_below hd3 (by omega)).trans (.of_below ((Below.refl _ w3).alloc (Nat.le_refl _) _) (by omega))).trans (.grown hg1 (by simp; omega) (fun g hg => by
          exact hrow g hg))).trans (Bx.setCell (p := ⟨w1.heap.size, 0, none⟩) _ _)
      · rw [show (L ++ [X]).length = L.length + 1 by simp] at ho1
        have hS : Below w.heap.size w (w4.setCell ⟨w1.heap.size, 0, none⟩ (.slice A4 (L.length + 1) c4)) := hb4.setCell hsz1 _
        have hF4 : ∀ b, OfT Wb [38, 5] b → OfT w4 [38, 5] b := fun b hb => by
          have hl := hb.lt
          exact hb.keep ((hg1.block b (by simp; omega) (fun e => HOB.out.not b e.symm hb)).trans ((Below.heap_alloc _ _ _ (by omega)).trans (hd3.block b hl)))
        have hnb : ¬ OfT w4 [38, 5] w1.heap.size := fun hb => by
          obtain ⟨cs, t, fr, h1, h2⟩ := hb
          rw [HVB4] at h1; cases h1
          exact absurd h2 (by decide)
        have ho2 := (ho1.retype (ts := [38, 5]) (by decide) (fun b hb _ => hF4 b (by rcases hb with hb | hb; exact hb; exact hb.1))).setCell (p := ⟨w1.heap.size, 0, none⟩) hnb (fun e => by
          have h1 := (ho1.blk e).1
          simp at h1
          omega) (.slice A4 (L.length + 1) c4)
        exact ⟨_, blk_set1 HVB4, ho2.retype (by decide) (fun b hb _ => hb.keep (Below.heap_setCell _ _ _ _ (fun e => hnb (by have e' : b = w1.heap.size := e; rw [← e']; exact hb)))), hS⟩
  case done =>
    rintro D xs W hD hS ⟨v, hv, hown, hb⟩ hK
    rw [hS] at hown
    obtain ⟨Ao, co, rfl, hso⟩ := hown.sl (F' := fun _ => True) (fun _ _ => trivial) (fun _ _ => trivial)
    have hcv := cell_of_blk hv
    have HSO := Lib.hid hso
    clear hown hso hS HSEQ HI0
    gi_wp2
    refine ⟨by simp, .inl ⟨_, _, rfl, run_takeDeferred hK, ?_⟩⟩
    refine ⟨_, results_tmp2 rfl _ _ _, ?_, Ao, co, rfl, HSO.out.keep ?_⟩
    · exact hb.trans ⟨rfl, rfl, rfl, by simp [World.putObj], fun k hk => World.putObj_heap_other (by omega)⟩
    · exact .obj hK (fun _ _ _ e => by cases e) (fun b _ hne => World.putObj_heap_other hne) _
end
end Go.Proofs.Ytdgcfgiedclmcaa
