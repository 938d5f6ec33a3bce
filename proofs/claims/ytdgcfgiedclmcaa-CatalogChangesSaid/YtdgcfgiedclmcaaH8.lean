/- Contracts: slices.Clone and slices.DeleteFunc over spaces. -/
import Derived.Test.YtdgcfgiedclmcaaH6
import Derived.Test.YtdgcfgiedclmcaaH7
namespace Go.Proofs.Ytdgcfgiedclmcaa
open Go.RowKit

theorem Try.infoSpace : (Try.prog.info? 77).map (fun i => (i.zero, i.size, i.bytes)) = some (some (.agg #[.int .i64 0, .int .i64 0, .int .i64 0, .slice none 0 0, .slice none 0 0, .slice none 0 0, .slice none 0 0]), 7, 120) := by kernel_rfl
theorem zeroSpace (w : World) : (zeroValue 77).run Try.prog w = .ok (.agg #[.int .i64 0, .int .i64 0, .int .i64 0, .slice none 0 0, .slice none 0 0, .slice none 0 0, .slice none 0 0]) w := by kernel_rfl
section
variable {w : World} {F G : Nat → Prop} {A B : Option Addr} {n c m d : Nat}
set_option maxHeartbeats 400000 in
/-- slices.Clone of spaces: the row is new, what it leads to is the old one's -/
theorem clone_spaces {a : List Space} (h : Sl Enc.space w F A n c a) (hn : n ≤ 1000000) :
    Calls Try.prog 88 #[.slice A n c] w fun e w' => ∃ v, e = .returned v ∧ Own Enc.space 77 w' w.heap.size (fun b => F b ∧ b < w.heap.size) v a ∧ Below w.heap.size w w' := by
  have hnil := fun (W : World) => Lib.run_eql_slice_nil (P := Try.prog) W 72 77 A n c 0 0 Try.underlying72
  cases A with
  | none =>
    have h3 : a = [] := List.eq_nil_of_length_eq_zero (by have h0 := h.2.2.1.2 rfl; have h1 := h.2.1; have := h.1; omega)
    subst h3
    go_enter Try.func88, Try.ntmps88
    go_wp2
    go_ret
    exact ⟨_, rfl, (Own.nil _ _ _ _).weaken (fun _ h => h.elim) (fun g hg => by cases hg) (fun _ h => h.2), .refl _ _⟩
  | some ad =>
    have HS := Lib.hid (h.old.keep (.alloc w (.cells #[] 77) _)); have hl := h.len; clear h
    go_enter Try.func88, Try.ntmps88
    go_wp2_with (at_builtin; refine wpl_app (e := Enc.space) rfl _ _ 72 rfl Try.underlying72 Try.infoSpace rfl rfl rfl (Own.litNil _ _ w w.heap.size (Nat.le_refl _)) HS.out.sr (fun g hg hb => by cases hg; exact absurd hb.2 (Nat.lt_irrefl _)) (by simp) (by omega) (by simp; omega) ?_; intro v1 w1 ho hg hat _)
    go_ret
    have hb := ((Below.refl w.heap.size w).alloc (Nat.le_refl _) _).grown hg (by simp) (fun k hk => by cases hk; exact Nat.le_refl _)
    refine ⟨_, rfl, ho.weaken (fun b hb => ?_) (fun g hg hb => ?_) (fun b hb' => ?_), hb⟩
    · rcases hb with hb | hb
      · exact hb.elim
      · exact hb.1
    · have := (ho.blk hg).1; have := hb.2; omega
    · have := hb'.2; have := hb.size; omega
end

/-- A function value that tells of a space whether it fits, in every world in which all but block g lies as it lay. -/
def PredT (w : World) (g : Nat) (f : FuncId) (lb : Array Value) (p : Space → Bool) : Prop :=
  (∀ args w, (callFunc f args).run Try.prog w = .ok (.enter f args) w) ∧ ∀ (W : World) (x : Space) (vs : List Value) (F : Nat → Prop), Ch g w W → Enc.space.rel W F vs x →
    Calls Try.prog f (#[.agg vs.toArray] ++ lb) W fun e w' => e = .returned (.bool (p x)) ∧ Below W.heap.size W w'
theorem PredT.predS {w : World} {g : Nat} {f : FuncId} {lb : Array Value} {p : Space → Bool} (h : PredT w g f lb p) (F : Nat → Prop) : PredS w F f lb p := ⟨h.1, fun W x vs hb hr => h.2 W x vs F (.of_below hb) hr⟩

theorem filter_none {α : Type} {p : α → Bool} {l : List α} (h : ∀ x ∈ l, p x = false) : l.filter (fun x => !p x) = l := by
  rw [List.filter_eq_self]; intro x hx; simp [h x hx]
theorem fidx_cases {α : Type} (p : α → Bool) (l : List α) : (fidx p l = -1 ∧ ∀ x ∈ l, p x = false) ∨ ∃ k, ∃ hk : k < l.length, fidx p l = k ∧ p l[k] = true ∧ ∀ x ∈ l.take k, p x = false := by
  unfold fidx
  cases h : l.findIdx? p with
  | none =>
    rw [List.findIdx?_eq_none_iff] at h
    exact .inl ⟨rfl, h⟩
  | some k =>
    obtain ⟨hk, hp, hn⟩ := List.findIdx?_eq_some_iff_getElem.1 h
    refine .inr ⟨k, hk, rfl, hp, fun x hx => ?_⟩
    obtain ⟨j, hj, rfl⟩ := List.mem_take_iff_getElem.1 hx
    simpa using hn j (by omega)

section
variable {w : World} {F : Nat → Prop} {n c g base : Nat}
set_option maxRecDepth 100000 in
set_option maxHeartbeats 2000000 in
theorem delete_spaces {ws : List Space} {f : FuncId} {lb : Array Value} {p : Space → Bool} (h : Own Enc.space 77 w base F (.slice (some ⟨g, 0, none⟩) n c) ws) (hp : PredT w g f lb p) (hn : n ≤ 1000000) :
    Calls Try.prog 87 #[.slice (some ⟨g, 0, none⟩) n c, .func (.func f) #[] lb] w fun e w' => ∃ m, e = .returned (.slice (some ⟨g, 0, none⟩) m c) ∧ Own Enc.space 77 w' base F (.slice (some ⟨g, 0, none⟩) m c) (ws.filter fun x => !p x) ∧ Ch g w w' := by
  have hln := h.len
  obtain ⟨A', c', e', hsl⟩ := h.sl (F' := fun b => F b ∨ b = g) (fun b hb => .inl hb) (fun b hb => by cases hb; exact .inr rfl)
  rw [hln] at e' hsl
  cases e'
  have HI := Lib.hid (index_spaces hsl (hp.predS _))
  obtain ⟨eg, hp⟩ := hp
  have HP := Lib.hid hp
  clear hp hsl
  rcases fidx_cases p ws with ⟨hx, hall⟩ | ⟨k, hk, hx, hpk, hall⟩
  · rw [hx] at HI
    have HF : Hid (ws.filter (fun x => !p x) = ws) := Lib.hid (filter_none hall)
    have HO := Lib.hid h
    clear hx hall h
    go_enter Try.func87, Try.ntmps87
    go_wp2_with fail
    refine HI.out.mono ?_
    rintro e w1 ⟨rfl, hd1⟩
    go_wp2
    go_ret
    exact ⟨_, rfl, by rw [HF.out]; exact HO.out.all hd1, .of_below hd1⟩
  · rw [hx] at HI
    have hkn : k < n := by omega
    have hk1 : ((k : Int) == -1) = false := by simp <;> omega
    have HF0 : Hid ((ws.take (k + 1)).filter (fun x => !p x) = ws.take k) := Lib.hid (by
      rw [List.take_succ_eq_append_getElem hk, List.filter_append, filter_none hall]; simp [hpk])
    have HO := Lib.hid h
    have HLN := Lib.hid hln
    clear hx hall hpk h hln
    go_enter Try.func87, Try.ntmps87
    go_wp2_with fail
    refine HI.out.mono ?_
    rintro e w1 ⟨rfl, hd1⟩
    have HO1 := Lib.hid (HO.out.all hd1)
    have HD1 := Lib.hid (Ch.of_below (b := g) hd1)
    clear HO HI hd1
    go_wp2
    go_loopw [5, 6] (fun i j wr => ∃ (i' j' : Nat) (L : List Space), i = .int .i64 i' ∧ j = .int .i64 j' ∧ i' < j' ∧ j' ≤ n ∧ L.length = n ∧ L.take i' = (ws.take j').filter (fun x => !p x) ∧ L.drop j' = ws.drop j' ∧ Own Enc.space 77 wr base F (.slice (some ⟨g, 0, none⟩) n c) L ∧ Ch g w wr) (fun _ j _ => n - (intOf j).toNat)
    case atStart => exact ⟨k, k + 1, ws, rfl, by go_num, by omega, by omega, HLN.out, HF0.out.symm, rfl, HO1.out, HD1.out⟩
    case round =>
      obtain ⟨i, j, L, rfl, rfl, hij, hjn, hL, hLi, hLj, ho, hch⟩ := hrel
      have hsz := hch.size
      by_cases hlt : j < n
      · have hjL : j < L.length := by omega
        have hjw : j < ws.length := by rw [HLN.out]; exact hlt
        obtain ⟨vs, hrel, hcs⟩ := ho.elem j hjL
        have hLw : L[j] = ws[j] := by
          have h1 := congrArg (fun l => l[0]?) hLj
          simp only [List.getElem?_drop, Nat.add_zero] at h1
          rw [List.getElem?_eq_getElem hjL, List.getElem?_eq_getElem hjw] at h1
          injection h1
        rw [hLw] at hrel
        have HREL := Lib.hid hrel
        obtain ⟨Ar, nr, cr, Ae, ce, At, ct, As, cc, rfl, -⟩ := hrel
        have c0 : wr.cell? ⟨g, j * 7, none⟩ = _ := hcs 0 _ rfl
        have c1 : wr.cell? ⟨g, j * 7 + 1, none⟩ = _ := hcs 1 _ rfl
        have c2 : wr.cell? ⟨g, j * 7 + 2, none⟩ = _ := hcs 2 _ rfl
        have c3 : wr.cell? ⟨g, j * 7 + 3, none⟩ = _ := hcs 3 _ rfl
        have c4 : wr.cell? ⟨g, j * 7 + 4, none⟩ = _ := hcs 4 _ rfl
        have c5 : wr.cell? ⟨g, j * 7 + 5, none⟩ = _ := hcs 5 _ rfl
        have c6 : wr.cell? ⟨g, j * 7 + 6, none⟩ = _ := hcs 6 _ rfl
        obtain ⟨x, hx⟩ : ∃ x, ws[j] = x := ⟨_, rfl⟩
        rw [hx] at c0 c1 c2 c4 c5 c6 HREL
        obtain ⟨W2, hW2⟩ : ∃ W2, W2 = wr.alloc (.cells #[.int .i64 x.id, .int .i64 x.tenant, .int .i64 x.sectors, .slice Ar nr cr, .slice Ae x.ext ce, .slice At x.tree ct, .slice As x.sums cc] 77) := ⟨_, rfl⟩
        have hb2 : Below wr.heap.size wr W2 := by rw [hW2]; exact (Below.refl _ _).alloc (Nat.le_refl _) _
        have HCALL := Lib.hid (HP.out W2 x _ F (hch.trans (.of_below hb2)) (Enc.space.keep HREL.out (.all hb2 F)))
        rw [hW2] at HCALL
        have b2 : (wr.alloc (.cells #[.int .i64 x.id, .int .i64 x.tenant, .int .i64 x.sectors, .slice Ar nr cr, .slice Ae x.ext ce, .slice At x.tree ct, .slice As x.sums cc] 77)).heap[wr.heap.size]? = some (.cells #[.int .i64 x.id, .int .i64 x.tenant, .int .i64 x.sectors, .slice Ar nr cr, .slice Ae x.ext ce, .slice At x.tree ct, .slice As x.sums cc] 77) := heap_alloc_new wr _
        have HX := Lib.hid hx
        have HO := Lib.hid ho
        have HCH := Lib.hid hch
        have HL := Lib.hid (And.intro hL (And.intro hLi hLj))
        have hil : i < L.length := by omega
        obtain ⟨us, hus, hucs⟩ := (ho.elem i hil)
        have hul := Enc.space.len hus
        clear hx hW2 hb2 ho hch hLw hLi hLj hL hus
        cases hq : p x
        · rw [hq] at HCALL
          have HQ := Lib.hid hq
          clear hq
          go_wp2_with fail
          refine HCALL.out.mono ?_
          rintro e w2 ⟨rfl, hd2⟩
          have hd2' : Below wr.heap.size wr w2 := ((Below.refl _ wr).alloc (Nat.le_refl _) _).trans (hd2.mono (by simp))
          have b3 := (hd2.block _ (by simp)).trans b2
          have HO2 := Lib.hid (HO.out.all hd2')
          have HR2 := Lib.hid (Enc.space.keep HREL.out (.all hd2' F))
          have HCH2 := Lib.hid (HCH.out.trans (.of_below hd2'))
          have fz := fun o => HO2.out.froz o
          have e0 : w2.cell? ⟨wr.heap.size, 0, none⟩ = some (.int .i64 x.id) := by simp [World.cell?, b3]
          have e1 : w2.cell? ⟨wr.heap.size, 1, none⟩ = some (.int .i64 x.tenant) := by simp [World.cell?, b3]
          have e2 : w2.cell? ⟨wr.heap.size, 2, none⟩ = some (.int .i64 x.sectors) := by simp [World.cell?, b3]
          have e3 : w2.cell? ⟨wr.heap.size, 3, none⟩ = some (.slice Ar nr cr) := by simp [World.cell?, b3]
          have e4 : w2.cell? ⟨wr.heap.size, 4, none⟩ = some (.slice Ae x.ext ce) := by simp [World.cell?, b3]
          have e5 : w2.cell? ⟨wr.heap.size, 5, none⟩ = some (.slice At x.tree ct) := by simp [World.cell?, b3]
          have e6 : w2.cell? ⟨wr.heap.size, 6, none⟩ = some (.slice As x.sums cc) := by simp [World.cell?, b3]
          match us, hul, hucs with
          | [v0, v1, v2, v3, v4, v5, v6], _, hucs =>
            have d0 : w2.cell? ⟨g, i * 7, none⟩ = some v0 := bc hd2' (hucs 0 _ rfl)
            have d1 : w2.cell? ⟨g, i * 7 + 1, none⟩ = some v1 := bc hd2' (hucs 1 _ rfl)
            have d2 : w2.cell? ⟨g, i * 7 + 2, none⟩ = some v2 := bc hd2' (hucs 2 _ rfl)
            have d3 : w2.cell? ⟨g, i * 7 + 3, none⟩ = some v3 := bc hd2' (hucs 3 _ rfl)
            have d4 : w2.cell? ⟨g, i * 7 + 4, none⟩ = some v4 := bc hd2' (hucs 4 _ rfl)
            have d5 : w2.cell? ⟨g, i * 7 + 5, none⟩ = some v5 := bc hd2' (hucs 5 _ rfl)
            have d6 : w2.cell? ⟨g, i * 7 + 6, none⟩ = some v6 := bc hd2' (hucs 6 _ rfl)
            clear hucs c0 c1 c2 c3 c4 c5 c6 hd2 hd2' HCALL b2 b3 hcs
            have HS : Hid (Own Enc.space 77 (w2.setCells g (i * 7) [.int .i64 x.id, .int .i64 x.tenant, .int .i64 x.sectors, .slice Ar nr cr, .slice Ae x.ext ce, .slice At x.tree ct, .slice As x.sums cc]) base F (.slice (some ⟨g, 0, none⟩) n c) (L.set i x)) := Lib.hid (HO2.out.storeN i hil HR2.out)
            have HC3 := Lib.hid (HCH2.out.trans (ch_setCells (g := g) [.int .i64 x.id, .int .i64 x.tenant, .int .i64 x.sectors, .slice Ar nr cr, .slice Ae x.ext ce, .slice At x.tree ct, .slice As x.sums cc] w2 (i * 7)))
            go_wp2
            rw [setCells7]
            go_roundw
            case rel =>
              refine ⟨i + 1, j + 1, L.set i x, by go_num, by go_num, by omega, by omega, by rw [List.length_set]; exact HL.out.1, ?_, ?_, HS.out, HC3.out⟩
              · rw [List.take_succ_eq_append_getElem (by rw [List.length_set]; exact hil), List.getElem_set_self, List.take_set_of_le (Nat.le_refl _), HL.out.2.1, List.take_succ_eq_append_getElem hjw, List.filter_append, HX.out]
                simp [HQ.out]
              · rw [List.drop_set_of_lt (by omega), ← List.drop_drop, ← List.drop_drop, HL.out.2.2]
            case measure => simp [intOf] <;> omega
        · rw [hq] at HCALL
          have HQ := Lib.hid hq
          clear hq
          go_wp2_with fail
          refine HCALL.out.mono ?_
          rintro e w2 ⟨rfl, hd2⟩
          have hd2' : Below wr.heap.size wr w2 := ((Below.refl _ wr).alloc (Nat.le_refl _) _).trans (hd2.mono (by simp))
          go_wp2
          go_roundw
          case rel => exact ⟨i, j + 1, L, rfl, by go_num, by omega, by omega, HL.out.1, by rw [HL.out.2.1, List.take_succ_eq_append_getElem hjw, List.filter_append, HX.out]; simp [HQ.out], by rw [← List.drop_drop, ← List.drop_drop, HL.out.2.2], HO.out.all hd2', HCH.out.trans (.of_below hd2')⟩
          case measure => simp [intOf] <;> omega
      · have hjn' : j = n := by omega
        have HE : Hid (L.take i = ws.filter (fun x => !p x)) := Lib.hid (by rw [hLi, List.take_of_length_le (by rw [HLN.out]; omega)])
        have HO := Lib.hid (ho.take (m := i) (by omega))
        have HO0 := Lib.hid ho
        have hin : i < n := by omega
        have hsome : ∀ q, q < (n - i) * 7 → (wr.cell? ⟨g, i * 7 + q, none⟩).isSome = true := fun q hq => ho.has (o := i * 7 + q) (by show i * 7 + q < n * 7; omega)
        obtain ⟨vs, hcl⟩ := run_clear_cells (P := Try.prog) wr 72 77 0 _ Try.underlying72 zeroSpace (by decide) g (i * 7) (n - i) (c - i) (by omega) hsome (fun q => ho.froz q)
        have HO3 : Hid (Own Enc.space 77 (wr.setCells g (i * 7) vs) base F (.slice (some ⟨g, 0, none⟩) i c) (L.take i)) := Lib.hid (HO.out.behind (Nat.le_refl _) vs)
        have HC3 := Lib.hid (hch.trans (ch_setCells (g := g) vs wr (i * 7)))
        have hcn : n ≤ c := by
          obtain ⟨A', c', e', h1, -⟩ := ho.form
          rw [hL] at e' h1
          cases e'; exact h1
        clear ho hch hLi hLj hL hjn' hsome
        go_wp2
        go_ret
        exact ⟨i, rfl, by rw [← HE.out]; exact HO3.out, HC3.out⟩
end
end Go.Proofs.Ytdgcfgiedclmcaa
