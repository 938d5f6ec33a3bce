/- Base: how Go's data lie in memory (Enc), rows of the call's own (Own), and how both are kept. No function of the program is named here. -/
import Derived.WalkKit
import Derived.WalkSpells
import Derived.WalkLawsBesides
import Derived.Deep.QuietTactic
import Derived.BigQuiet
import Derived.Lib.Hide
import Derived.Shelf.Abstract
import Derived.Deep.Slices
import Derived.ProofKit
import Derived.OpenShut
import Derived.Deep.AppendLies
import Derived.Deep.Draws
namespace Go.Proofs.Ytdgcfgiedclmcaa
open Go.RowKit Go.ChangeShapes Go.WideShapes

/-! ### addresses and worlds -/
theorem add_add' (a : Addr) (i j : Nat) : (a.add i).add j = a.add (i + j) := Go.Deep.add_add a i j
theorem add_block (a : Addr) (n : Nat) : (a.add n).block = a.block := by unfold Addr.add; split <;> rfl
theorem add_zero' (a : Addr) : a.add 0 = a := by simp [Addr.add]
theorem add_plain (g j : Nat) : (⟨g, 0, none⟩ : Addr).add j = ⟨g, j, none⟩ := by unfold Addr.add; split <;> simp_all
theorem add_fld (ad : Addr) (m j : Nat) (hj : 0 < j) : ad.add (m + j) = ⟨(ad.add m).block, (ad.add m).off + j, none⟩ := by
  unfold Addr.add
  by_cases hm : m = 0
  · subst hm; simp [Nat.ne_of_gt hj]
  · simp [hm, Nat.add_assoc]

/-- Blocks of a set F that were there lie as they lay, and are of F'. -/
def Bc (w : World) (b : Nat) : Prop := ∃ cs t fr, w.heap[b]? = some (.cells cs t fr)
theorem Bc.lt {w : World} {b : Nat} (h : Bc w b) : b < w.heap.size := by obtain ⟨_, _, _, h⟩ := h; exact (Array.getElem?_eq_some_iff.1 h).1
theorem Bc.of_cell {w : World} {a : Addr} {v : Value} (h : w.cell? a = some v) : Bc w a.block := by
  unfold World.cell? at h
  split at h
  · rename_i c t fr hh; exact ⟨c, t, fr, hh⟩
  · cases h
def KeepF (w w' : World) (F F' : Nat → Prop) : Prop := ∀ b, F b → Bc w b → w'.heap[b]? = w.heap[b]? ∧ F' b
theorem KeepF.cell {w w' : World} {F F' : Nat → Prop} (h : KeepF w w' F F') {a : Addr} {v : Value} (hF : F a.block) (hc : w.cell? a = some v) : w'.cell? a = some v :=
  (World.cell?_of_block (h _ hF (.of_cell hc)).1).trans hc
theorem KeepF.refl (w : World) (F : Nat → Prop) : KeepF w w F F := fun _ h _ => ⟨rfl, h⟩
theorem KeepF.weaken (w : World) {F F' : Nat → Prop} (hF : ∀ b, F b → b < w.heap.size → F' b) : KeepF w w F F' := fun b h hb => ⟨rfl, hF b h hb.lt⟩
theorem KeepF.drewN (w : World) (n : Nat) (F : Nat → Prop) : KeepF w (w.drewN n) F F := fun _ h _ => ⟨rfl, h⟩
theorem KeepF.undrew (w : World) (n : Nat) (F : Nat → Prop) : KeepF (w.drewN n) w F F := fun _ h _ => ⟨rfl, h⟩
theorem KeepF.alloc (w : World) (o : Obj) (F : Nat → Prop) : KeepF w (w.alloc o) F F := fun b h hb => ⟨Below.heap_alloc w o b hb.lt, h⟩
theorem KeepF.setCell (w : World) (p : Addr) (u : Value) (F : Nat → Prop) (hp : ¬ F p.block) : KeepF w (w.setCell p u) F F := fun b h _ => ⟨Below.heap_setCell w p u b (fun e => hp (e ▸ h)), h⟩
theorem KeepF.below {w w' : World} {B : Nat} (h : Below B w w') {F : Nat → Prop} (hF : ∀ b, F b → b < w.heap.size → b < B) : KeepF w w' F F := fun b hb hl => ⟨h.block b (hF b hb hl.lt), hb⟩
theorem KeepF.all {w w' : World} (h : Below w.heap.size w w') (F : Nat → Prop) : KeepF w w' F F := fun b hb hl => ⟨h.block b hl.lt, hb⟩
theorem KeepF.grown {w w' : World} {row : Option Nat} (h : w.grownBy w' row) {F : Nat → Prop} (hF : ∀ b, F b → b < w.heap.size → some b ≠ row) : KeepF w w' F F := fun b hb hl => ⟨h.block b hl.lt (hF b hb hl.lt), hb⟩
theorem KeepF.trans {w w1 w2 : World} {F G H : Nat → Prop} (h : KeepF w w1 F G) (k : KeepF w1 w2 G H) : KeepF w w2 F H := fun b hb hl => by
  obtain ⟨h1, h2⟩ := h b hb hl
  have hl1 : Bc w1 b := by obtain ⟨cs, t, fr, e⟩ := hl; exact ⟨cs, t, fr, h1.trans e⟩
  exact ⟨(k b h2 hl1).1.trans h1, (k b h2 hl1).2⟩
/-- a block that holds no cells has turned -/
theorem KeepF.obj {w w' : World} {l : Nat} {o : Obj} (h : w.heap[l]? = some o) (ho : ∀ cs t fr, o ≠ .cells cs t fr) (hk : ∀ b, b < w.heap.size → b ≠ l → w'.heap[b]? = w.heap[b]?) (F : Nat → Prop) : KeepF w w' F F := fun b hb hl => by
  refine ⟨hk b hl.lt fun e => ?_, hb⟩
  subst e
  obtain ⟨cs, t, fr, e⟩ := hl
  rw [h] at e
  injection e with e
  exact ho _ _ _ e

theorem le_alloc {w : World} {b : Nat} {o : Obj} (h : b ≤ w.heap.size) : b ≤ (w.alloc o).heap.size := by simp; omega
theorem below_drewN {B : Nat} {w W : World} (h : Below B w W) (n : Nat) : Below B w (W.drewN n) := ⟨h.os, h.tape, h.output, h.size, h.block⟩
theorem below_then {B : Nat} {w w1 w2 : World} (h : Below B w w1) (hB : B ≤ w1.heap.size) (k : Below w1.heap.size w1 w2) : Below B w w2 :=
  h.trans (k.mono hB)
theorem below_of_drewN (w : World) (n : Nat) : Below w.heap.size w (w.drewN n) := below_drewN (Below.refl _ _) n
theorem size_drewN (w : World) (n : Nat) : (w.drewN n).heap.size = w.heap.size := rfl

/-- The world is the old one, some orders having been drawn. -/
def Dr (w w' : World) : Prop := ∃ q, w' = w.drewN q
theorem Dr.refl (w : World) : Dr w w := ⟨0, rfl⟩
theorem Dr.drewN {w w' : World} (h : Dr w w') (n : Nat) : Dr w (w'.drewN n) := by obtain ⟨q, rfl⟩ := h; exact ⟨q + n, World.drewN_drewN ..⟩
theorem Dr.drew {w w' : World} (h : Dr w w') : Dr w w'.drew := h.drewN 1
theorem Dr.trans {w w' w'' : World} (h : Dr w w') (k : Dr w' w'') : Dr w w'' := by obtain ⟨q, rfl⟩ := k; exact h.drewN q
theorem Dr.below {w w' : World} (h : Dr w w') : Below w.heap.size w w' := by obtain ⟨q, rfl⟩ := h; exact below_of_drewN w q
theorem Dr.size {w w' : World} (h : Dr w w') : w'.heap.size = w.heap.size := by obtain ⟨q, rfl⟩ := h; rfl
theorem Dr.heap {w w' : World} (h : Dr w w') : w'.heap = w.heap := by obtain ⟨q, rfl⟩ := h; rfl
theorem Dr.cell {w w' : World} (h : Dr w w') {a : Addr} {v : Value} (hc : w.cell? a = some v) : w'.cell? a = some v := by obtain ⟨q, rfl⟩ := h; exact hc
theorem below_dr {B : Nat} {w w1 w2 : World} (h : Below B w w1) (k : Dr w1 w2) : Below B w w2 := by obtain ⟨q, rfl⟩ := k; exact below_drewN h q
/-- for go_quiet: a call that only draws -/
theorem quiet_dr {P : Program} {f : FuncId} {args : Array Value} {w : World} {n : Nat} {v : Value} (h : Calls P f args (w.drewN n) fun e w' => e = .returned v ∧ Dr (w.drewN n) w') :
    Calls P f args (w.drewN n) fun e w'' => e = .returned v ∧ ∃ m, w'' = w.drewN m :=
  h.mono fun _ _ ⟨he, m, hm⟩ => ⟨he, n + m, by rw [hm, World.drewN_drewN]⟩

/-! ### how data lie in cells -/
structure Enc (α : Type) where
  size : Nat
  rel : World → (Nat → Prop) → List Value → α → Prop
  pos : 0 < size
  len : ∀ {w F vs a}, rel w F vs a → vs.length = size
  one : ∀ {w F vs a}, rel w F vs a → ∀ u ∈ vs, u.oneCell' = true
  keep : ∀ {w w' F F' vs a}, rel w F vs a → KeepF w w' F F' → rel w' F' vs a

/-- A slice's value: address A, length n, capacity c; its elements are xs. -/
def Sl {α : Type} (e : Enc α) (w : World) (F : Nat → Prop) (A : Option Addr) (n c : Nat) (xs : List α) : Prop :=
  n = xs.length ∧ n ≤ c ∧ (c ≤ 9223372036854775807 ∧ (A = none → c = 0)) ∧
    ∀ i x, xs[i]? = some x → ∃ ad cs, A = some ad ∧ F ad.block ∧ e.rel w F cs x ∧ ∀ j u, cs[j]? = some u → w.cell? (ad.add (i * e.size + j)) = some u

section
variable {α : Type} {e : Enc α} {w w' : World} {F F' : Nat → Prop} {A : Option Addr} {n c : Nat} {xs : List α}
theorem Sl.keep (h : Sl e w F A n c xs) (k : KeepF w w' F F') : Sl e w' F' A n c xs := by
  refine ⟨h.1, h.2.1, h.2.2.1, fun i x hx => ?_⟩
  obtain ⟨ad, cs, hA, hF, hr, hc⟩ := h.2.2.2 i x hx
  have hlen := e.len hr
  have hpos := e.pos
  have h1 : w.cell? (ad.add (i * e.size + 0)) = some (cs[0]'(by omega)) := hc 0 _ (List.getElem?_eq_getElem (by omega))
  have hb := Bc.of_cell h1
  rw [add_block] at hb
  exact ⟨ad, cs, hA, (k _ hF hb).2, e.keep hr k, fun j u hu => k.cell (by rw [add_block]; exact hF) (hc j u hu)⟩
theorem Sl.all (h : Sl e w F A n c xs) (hb : Below w.heap.size w w') : Sl e w' F A n c xs := h.keep (.all hb F)
theorem Sl.drewN (h : Sl e w F A n c xs) (m : Nat) : Sl e (w.drewN m) F A n c xs := h.keep (.drewN w m F)
theorem Sl.undrew {m : Nat} (h : Sl e (w.drewN m) F A n c xs) : Sl e w F A n c xs := h.keep (.undrew w m F)
theorem Sl.nil (e : Enc α) (w : World) (F : Nat → Prop) : Sl e w F none 0 0 [] := ⟨rfl, by omega, ⟨by omega, fun _ => rfl⟩, fun i x hx => by simp at hx⟩
theorem Sl.empty (e : Enc α) (w : World) (F : Nat → Prop) (a : Addr) (c : Nat) (hc : c ≤ 9223372036854775807) : Sl e w F (some a) 0 c [] := ⟨rfl, by omega, ⟨hc, fun h => by cases h⟩, fun i x hx => by simp at hx⟩
theorem Sl.len (h : Sl e w F A n c xs) : xs.length = n := h.1.symm
theorem Sl.max (h : Sl e w F A n c xs) : n ≤ 9223372036854775807 := Nat.le_trans h.2.1 h.2.2.1.1
theorem Sl.lt (h : Sl e w F A n c xs) {k : Nat} (hk : k < n) : k < xs.length := by rw [← h.1]; exact hk
theorem Sl.get (h : Sl e w F A n c xs) (k : Nat) (hk : k < xs.length) :
    ∃ ad cs, A = some ad ∧ F ad.block ∧ e.rel w F cs xs[k] ∧ ∀ j u, cs[j]? = some u → w.cell? (ad.add (k * e.size + j)) = some u :=
  h.2.2.2 k _ (List.getElem?_eq_getElem hk)
theorem Sl.take (h : Sl e w F A n c xs) {m : Nat} (hm : m ≤ n) : Sl e w F A m c (xs.take m) := by
  refine ⟨by rw [List.length_take, ← h.1]; omega, by have := h.2.1; omega, h.2.2.1, fun i x hx => ?_⟩
  rw [List.getElem?_take] at hx
  split at hx
  · exact h.2.2.2 i x hx
  · cases hx
theorem Sl.cap (h : Sl e w F A n c xs) {m : Nat} (hm : n ≤ m) (hm' : m ≤ c) : Sl e w F A n m xs := ⟨h.1, hm, ⟨by have := h.2.2.1.1; omega, fun hA => by have := h.2.2.1.2 hA; omega⟩, h.2.2.2⟩
theorem Sl.drop (h : Sl e w F A n c xs) {k : Nat} (hk : k ≤ n) : Sl e w F (if c = k then A else A.map (·.add (k * e.size))) (n - k) (c - k) (xs.drop k) := by
  refine ⟨by rw [List.length_drop, ← h.1], by have := h.2.1; omega, ⟨by have := h.2.2.1.1; omega, fun hA => ?_⟩, fun i x hx => ?_⟩
  · split at hA
    · have := h.2.2.1.2 hA; omega
    · have := h.2.2.1.2 (by simpa using hA); omega
  rw [List.getElem?_drop] at hx
  obtain ⟨ad, cs, hA, hF, hr, hc⟩ := h.2.2.2 _ x hx
  have hlt := (List.getElem?_eq_some_iff.1 hx).1
  rw [if_neg (by have := h.1; have := h.2.1; omega), hA]
  refine ⟨ad.add (k * e.size), cs, rfl, by rw [add_block]; exact hF, hr, fun j u hu => ?_⟩
  rw [add_add', ← Nat.add_assoc, ← Nat.add_mul]
  exact hc j u hu
end

/-- one cell: an integer -/
def Enc.int (k : IntKind) : Enc Int where
  size := 1
  rel _ _ vs x := vs = [.int k x] ∧ (Lit.int k x).wf = true
  pos := by omega
  len h := by rw [h.1]; rfl
  one h u hu := by rw [h.1] at hu; simp at hu; rw [hu]; rfl
  keep h _ := h
def Enc.bool : Enc Bool where
  size := 1
  rel _ _ vs x := vs = [.bool x]
  pos := by omega
  len h := by rw [h]; rfl
  one h u hu := by rw [h] at hu; simp at hu; rw [hu]; rfl
  keep h _ := h
def Enc.slice {α : Type} (e : Enc α) : Enc (List α) where
  size := 1
  rel w F vs xs := ∃ A n c, vs = [.slice A n c] ∧ Sl e w F A n c xs
  pos := by omega
  len h := by obtain ⟨_, _, _, rfl, _⟩ := h; rfl
  one h u hu := by obtain ⟨_, _, _, rfl, _⟩ := h; simp at hu; rw [hu]; rfl
  keep h k := by obtain ⟨A, n, c, rfl, h⟩ := h; exact ⟨A, n, c, rfl, h.keep k⟩
/-- a slice of which only the length is told -/
def Enc.raw : Enc Nat where
  size := 1
  rel _ _ vs n := ∃ A c, vs = [.slice A n c] ∧ n ≤ 9223372036854775807
  pos := by omega
  len h := by obtain ⟨_, _, rfl, _⟩ := h; rfl
  one h u hu := by obtain ⟨_, _, rfl, _⟩ := h; simp at hu; rw [hu]; rfl
  keep h _ := h
/-- two, one behind the other -/
def Enc.pair {α β : Type} (e : Enc α) (f : Enc β) : Enc (α × β) where
  size := e.size + f.size
  rel w F vs p := ∃ v1 v2, vs = v1 ++ v2 ∧ e.rel w F v1 p.1 ∧ f.rel w F v2 p.2
  pos := by have := e.pos; omega
  len h := by obtain ⟨v1, v2, rfl, h1, h2⟩ := h; rw [List.length_append, e.len h1, f.len h2]
  one h u hu := by
    obtain ⟨v1, v2, rfl, h1, h2⟩ := h
    rcases List.mem_append.1 hu with hu | hu
    · exact e.one h1 u hu
    · exact f.one h2 u hu
  keep h k := by obtain ⟨v1, v2, rfl, h1, h2⟩ := h; exact ⟨v1, v2, rfl, e.keep h1 k, f.keep h2 k⟩
/-- n, one behind the other (an array) -/
def Enc.array {α : Type} (e : Enc α) (n : Nat) (hn : 0 < n) : Enc (List α) where
  size := n * e.size
  rel w F vs xs := xs.length = n ∧ vs.length = n * e.size ∧ (∀ u ∈ vs, u.oneCell' = true) ∧ ∀ i x, xs[i]? = some x → e.rel w F ((vs.drop (i * e.size)).take e.size) x
  pos := Nat.mul_pos hn e.pos
  len h := h.2.1
  one h := h.2.2.1
  keep h k := ⟨h.1, h.2.1, h.2.2.1, fun i x hx => e.keep (h.2.2.2 i x hx) k⟩
abbrev Enc.u8 : Enc Int := Enc.int .u8
abbrev Enc.i64 : Enc Int := Enc.int .i64
abbrev Enc.bytes : Enc (List Int) := Enc.slice Enc.u8

section
variable {w : World} {F : Nat → Prop} {A : Option Addr} {n c : Nat}
theorem Sl.int {k : IntKind} {xs : List Int} (h : Sl (Enc.int k) w F A n c xs) (i : Nat) (hi : i < xs.length) : ∃ ad, A = some ad ∧ F ad.block ∧ w.cell? (ad.add i) = some (.int k xs[i]) := by
  obtain ⟨ad, cs, hA, hF, ⟨rfl, _⟩, hc⟩ := h.get i hi
  exact ⟨ad, hA, hF, by simpa [Enc.int] using hc 0 _ rfl⟩
theorem Sl.wf {k : IntKind} {xs : List Int} (h : Sl (Enc.int k) w F A n c xs) : ∀ x ∈ xs, (Lit.int k x).wf = true := by
  intro x hx
  obtain ⟨i, hi⟩ := List.getElem?_of_mem hx
  obtain ⟨_, _, _, _, hr, _⟩ := h.2.2.2 i x hi
  exact hr.2
theorem Sl.bool {xs : List Bool} (h : Sl Enc.bool w F A n c xs) (i : Nat) (hi : i < xs.length) : ∃ ad, A = some ad ∧ F ad.block ∧ w.cell? (ad.add i) = some (.bool xs[i]) := by
  obtain ⟨ad, cs, hA, hF, hr, hc⟩ := h.get i hi
  cases hr
  exact ⟨ad, hA, hF, by simpa [Enc.bool] using hc 0 _ rfl⟩
theorem Sl.slice {α : Type} {e : Enc α} {xs : List (List α)} (h : Sl (Enc.slice e) w F A n c xs) (i : Nat) (hi : i < xs.length) :
    ∃ ad B m d, A = some ad ∧ F ad.block ∧ w.cell? (ad.add i) = some (.slice B m d) ∧ Sl e w F B m d xs[i] := by
  obtain ⟨ad, cs, hA, hF, ⟨B, m, d, rfl, hs⟩, hc⟩ := h.get i hi
  exact ⟨ad, B, m, d, hA, hF, by simpa [Enc.slice] using hc 0 _ rfl, hs⟩
end

/-- api.Entry: a sector, and its data -/
abbrev Entry := Int × List Int
abbrev Enc.entry : Enc Entry := Enc.pair Enc.i64 Enc.bytes
/-- the address of a struct's later cell, as the walk spells it -/
theorem cell_fld {w : World} {ad : Addr} {m j : Nat} {v : Value} (hj : 0 < j) (h : w.cell? (ad.add (m + j)) = some v) : w.cell? ⟨(ad.add m).block, (ad.add m).off + j, none⟩ = some v := by rwa [add_fld ad m j hj] at h
theorem Sl.entry {w : World} {F : Nat → Prop} {A : Option Addr} {n c : Nat} {xs : List Entry} (h : Sl Enc.entry w F A n c xs) (i : Nat) (hi : i < xs.length) :
    ∃ ad B m d, A = some ad ∧ F ad.block ∧ w.cell? (ad.add (i * 2)) = some (.int .i64 xs[i].1) ∧ w.cell? ⟨(ad.add (i * 2)).block, (ad.add (i * 2)).off + 1, none⟩ = some (.slice B m d) ∧ Sl Enc.u8 w F B m d xs[i].2 := by
  obtain ⟨ad, cs, hA, hF, ⟨v1, v2, rfl, ⟨rfl, _⟩, ⟨B, m, d, rfl, hs⟩⟩, hc⟩ := h.get i hi
  exact ⟨ad, B, m, d, hA, hF, hc 0 _ rfl, cell_fld (by omega) (hc 1 _ rfl), hs⟩

/-! ### rows of the call's own -/
/-- The row v (from block base on, element type E) is xs; what it leads to is of F, its own block is not. -/
def Own {α : Type} (e : Enc α) (E : TypeId) (w : World) (base : Nat) (F : Nat → Prop) (v : Value) (xs : List α) : Prop :=
  ∃ cells, w.ownsRow base E e.size v xs.length cells ∧ (∀ i x, xs[i]? = some x → e.rel w F ((cells.drop (i * e.size)).take e.size) x) ∧ (∀ g, v.ownBlock = some g → ¬ F g) ∧ (∀ b, F b → b < w.heap.size)

section
variable {α : Type} {e : Enc α} {E : TypeId} {w w' : World} {base : Nat} {F F' : Nat → Prop} {v : Value} {xs : List α}
theorem Own.nil (e : Enc α) (E : TypeId) (w : World) (base : Nat) : Own e E w base (fun _ => False) (.slice none 0 0) [] :=
  ⟨[], World.ownsRow_nil _ _ _ _, fun i x hx => by simp at hx, fun g hg => by simp [Value.ownBlock] at hg, fun _ h => h.elim⟩
theorem Own.form (h : Own e E w base F v xs) : ∃ A c, v = .slice A xs.length c ∧ xs.length ≤ c ∧ (c ≤ 9223372036854775807 ∧ (A = none → c = 0)) ∧ (0 < xs.length → ∃ g, A = some ⟨g, 0, none⟩ ∧ base ≤ g ∧ g < w.heap.size) := by
  obtain ⟨cells, ho, _⟩ := h
  rcases ho.2 with ⟨rfl, h0⟩ | ⟨g, cap, cur, rfl, hb, hh, h1, h2, _⟩
  · rw [h0]; exact ⟨none, 0, rfl, by omega, ⟨by omega, fun _ => rfl⟩, fun h => by omega⟩
  · exact ⟨_, cap, rfl, h1, ⟨h2, fun h => by cases h⟩, fun _ => ⟨g, rfl, hb, (Array.getElem?_eq_some_iff.1 hh).1⟩⟩
theorem Own.blk (h : Own e E w base F v xs) {g : Nat} (hg : v.ownBlock = some g) : base ≤ g ∧ g < w.heap.size := by
  obtain ⟨cells, ho, _⟩ := h
  exact ho.lt g hg
/-- kept: its own block and all of F lie as they lay -/
theorem Own.keep (h : Own e E w base F v xs) (hs : w.heap.size ≤ w'.heap.size) (k : KeepF w w' F F) (hb : ∀ g, v.ownBlock = some g → w'.heap[g]? = w.heap[g]?) : Own e E w' base F v xs := by
  obtain ⟨cells, ho, hr, hn, hl⟩ := h
  refine ⟨cells, ⟨ho.1, ?_⟩, fun i x hx => e.keep (hr i x hx) k, hn, fun b hb => Nat.lt_of_lt_of_le (hl b hb) hs⟩
  rcases ho.2 with h0 | ⟨g, cap, cur, rfl, h1, h2, h3⟩
  · exact .inl h0
  · exact .inr ⟨g, cap, cur, rfl, h1, (hb g rfl).trans h2, h3⟩
theorem Own.not (h : Own e E w base F v xs) : ∀ g, v.ownBlock = some g → ¬ F g := by obtain ⟨_, _, _, h, _⟩ := h; exact h
theorem Own.lt (h : Own e E w base F v xs) : ∀ b, F b → b < w.heap.size := by obtain ⟨_, _, _, _, h⟩ := h; exact h
theorem Own.all (h : Own e E w base F v xs) (hb : Below w.heap.size w w') : Own e E w' base F v xs :=
  h.keep hb.size (.all hb F) fun g hg => hb.block g (h.blk hg).2
theorem Own.drewN (h : Own e E w base F v xs) (m : Nat) : Own e E (w.drewN m) base F v xs := h.all (below_of_drewN w m)
theorem Own.alloc (h : Own e E w base F v xs) (o : Obj) : Own e E (w.alloc o) base F v xs := h.all ((Below.refl _ w).alloc (Nat.le_refl _) o)
theorem Own.setCell (h : Own e E w base F v xs) {p : Addr} (hp : ¬ F p.block) (hv : v.ownBlock ≠ some p.block) (u : Value) : Own e E (w.setCell p u) base F v xs :=
  h.keep (by simp [World.setCell]) (.setCell w p u F hp) fun g hg => Below.heap_setCell w p u g (fun eq => hv (eq ▸ hg))
theorem Own.grown (h : Own e E w base F v xs) {row : Option Nat} (hg : w.grownBy w' row) (hF : ∀ b, F b → some b ≠ row) (hv : v.ownBlock = none ∨ v.ownBlock ≠ row) : Own e E w' base F v xs :=
  h.keep hg.size (.grown hg fun b hb _ => hF b hb) fun g hgv => hg.block g (h.blk hgv).2 (by rcases hv with hv | hv <;> simp_all)
theorem Own.weaken (h : Own e E w base F v xs) (hF : ∀ b, F b → F' b) (hv : ∀ g, v.ownBlock = some g → ¬ F' g) (hl : ∀ b, F' b → b < w.heap.size) : Own e E w base F' v xs := by
  obtain ⟨cells, ho, hr, _, _⟩ := h
  exact ⟨cells, ho, fun i x hx => e.keep (hr i x hx) (.weaken w fun b hb _ => hF b hb), hv, hl⟩
theorem Own.lower (h : Own e E w base F v xs) {b : Nat} (hb : b ≤ base) : Own e E w b F v xs := by
  obtain ⟨cells, ho, r⟩ := h
  refine ⟨cells, ⟨ho.1, ?_⟩, r⟩
  rcases ho.2 with h0 | ⟨g, cap, cur, rfl, h1, h2⟩
  · exact .inl h0
  · exact .inr ⟨g, cap, cur, rfl, by omega, h2⟩
/-- read as a slice -/
theorem Own.sl (h : Own e E w base F v xs) {F' : Nat → Prop} (hF : ∀ b, F b → F' b) (hv : ∀ g, v.ownBlock = some g → F' g) : ∃ A c, v = .slice A xs.length c ∧ Sl e w F' A xs.length c xs := by
  obtain ⟨A, c, rfl, h1, h2, h3⟩ := h.form
  refine ⟨A, c, rfl, rfl, h1, h2, fun i x hx => ?_⟩
  have hi := (List.getElem?_eq_some_iff.1 hx).1
  obtain ⟨g, rfl, hg, hl⟩ := h3 (by omega)
  obtain ⟨cells, ho, hr, _⟩ := h
  refine ⟨_, _, rfl, hv g rfl, e.keep (hr i x hx) (.weaken w fun b hb _ => hF b hb), fun j u hu => ?_⟩
  rw [List.getElem?_take] at hu
  split at hu
  · rw [List.getElem?_drop] at hu
    exact ho.cells (g := g) rfl _ u hu
  · cases hu
/-- a block that a literal has laid -/
theorem Own.lit (w : World) (base : Nat) (E : TypeId) (cells : List Value) (xs : List α) (hb : base ≤ w.heap.size) (hm : xs.length ≤ 9223372036854775807) (hc : cells.length = xs.length * e.size)
    (hr : ∀ i x, xs[i]? = some x → e.rel w F ((cells.drop (i * e.size)).take e.size) x) (hF : ∀ b, F b → b < w.heap.size) :
    Own e E (w.alloc (.cells cells.toArray E)) base F (.slice (some ⟨w.heap.size, 0, none⟩) xs.length xs.length) xs := by
  have h := World.ownsRow_lit (base := base) (e := E) (size := e.size) w cells.toArray xs.length hb (by simpa [maxLen] using hm) (by simpa using hc)
  refine ⟨cells, by simpa using h, fun i x hx => e.keep (hr i x hx) (.alloc w _ F), fun g hg hf => ?_, fun b hb => by have := hF b hb; simp; omega⟩
  have : w.heap.size = g := by simpa [Value.ownBlock] using hg
  have := hF g hf
  omega
end

/-- what an empty literal leaves: a row of the call's own -/
theorem Own.litNil {α : Type} (e : Enc α) (E : TypeId) (w : World) (base : Nat) (hb : base ≤ w.heap.size) : Own e E (w.alloc (.cells #[] E)) base (fun _ => False) (.slice (some ⟨w.heap.size, 0, none⟩) 0 0) ([] : List α) :=
  Own.lit (F := fun _ => False) w base E [] [] hb (by simp) (by simp) (fun i x hx => by simp at hx) (fun _ h => h.elim)
theorem Sl.old {α : Type} {e : Enc α} {w : World} {F : Nat → Prop} {A : Option Addr} {n c : Nat} {xs : List α} (h : Sl e w F A n c xs) : Sl e w (fun b => F b ∧ b < w.heap.size) A n c xs := h.keep fun _ hb hl => ⟨rfl, hb, hl.lt⟩

/-! ### append -/
theorem drop_take_append {α : Type} (l m : List α) (i s : Nat) (h : i * s + s ≤ l.length) : ((l ++ m).drop (i * s)).take s = (l.drop (i * s)).take s := by
  rw [List.drop_append_of_le_length (by omega), List.take_append_of_le_length (by rw [List.length_drop]; omega)]
theorem drop_append_at {α : Type} (l m : List α) (k : Nat) (h : l.length ≤ k) : (l ++ m).drop k = m.drop (k - l.length) := by
  rw [List.drop_append, List.drop_of_length_le h, List.nil_append]
section
variable {α : Type} {e : Enc α} {E : TypeId} {w w' : World} {base : Nat} {F G : Nat → Prop} {v : Value} {xs ys : List α} {A : Option Addr} {n c : Nat}
/-- a slice's value of which nothing is asked on where its own cells lie: what it leads to is of F -/
def Sr {α : Type} (e : Enc α) (w : World) (F : Nat → Prop) (A : Option Addr) (n c : Nat) (xs : List α) : Prop :=
  n = xs.length ∧ n ≤ c ∧ (c ≤ 9223372036854775807 ∧ (A = none → c = 0)) ∧
    ∀ (i : Nat) (x : α), xs[i]? = some x → ∃ ad cs, A = some ad ∧ e.rel w F cs x ∧ ∀ j u, cs[j]? = some u → w.cell? (ad.add (i * e.size + j)) = some u
theorem Sl.sr (h : Sl e w F A n c xs) : Sr e w F A n c xs := ⟨h.1, h.2.1, h.2.2.1, fun i x hx => by
  obtain ⟨ad, cs, hA, _, hr, hc⟩ := h.2.2.2 i x hx
  exact ⟨ad, cs, hA, hr, hc⟩⟩
theorem Sr.len (h : Sr e w F A n c xs) : xs.length = n := h.1.symm
/-- the raw cells of a slice -/
theorem Sr.cells (h : Sr e w F A n c xs) : ∃ cells : List Value, cells.length = n * e.size ∧ (∀ u ∈ cells, u.oneCell' = true) ∧ (∀ ad, A = some ad → ∀ j u, cells[j]? = some u → w.cell? (ad.add j) = some u) ∧
    ∀ i x, xs[i]? = some x → e.rel w F ((cells.drop (i * e.size)).take e.size) x := by
  obtain ⟨rfl, -, -, h⟩ := h
  have key : ∀ m, m ≤ xs.length → ∃ cells : List Value, cells.length = m * e.size ∧ (∀ u ∈ cells, u.oneCell' = true) ∧ (∀ ad, A = some ad → ∀ j u, cells[j]? = some u → w.cell? (ad.add j) = some u) ∧
      ∀ i x, i < m → xs[i]? = some x → e.rel w F ((cells.drop (i * e.size)).take e.size) x := by
    intro m
    induction m with
    | zero => exact fun _ => ⟨[], by simp, by simp, by simp, fun i x hi => by omega⟩
    | succ m ih =>
      intro hm
      obtain ⟨cells, hl, h1, hc, hr⟩ := ih (by omega)
      obtain ⟨ad, cs, hA, hrel, hcell⟩ := h m _ (List.getElem?_eq_getElem (by omega))
      have hlen := e.len hrel
      refine ⟨cells ++ cs, by rw [List.length_append, hl, hlen, Nat.succ_mul], fun u hu => ?_, fun ad' hA' j u hu => ?_, fun i x hi hx => ?_⟩
      · rcases List.mem_append.1 hu with hu | hu
        · exact h1 u hu
        · exact e.one hrel u hu
      · rcases Nat.lt_or_ge j cells.length with hj | hj
        · rw [List.getElem?_append_left hj] at hu
          exact hc ad' hA' j u hu
        · rw [List.getElem?_append_right hj] at hu
          have := hcell _ u hu
          rw [hA] at hA'
          cases hA'
          rwa [hl, show m * e.size + (j - m * e.size) = j by omega] at this
      · rcases Nat.lt_or_ge i m with him | him
        · rw [drop_take_append _ _ _ _ (by rw [hl, ← Nat.succ_mul]; exact Nat.mul_le_mul_right _ him)]
          exact hr i x him hx
        · obtain rfl : i = m := by omega
          rw [drop_append_at _ _ _ (by omega), hl, Nat.sub_self, List.drop_zero, List.take_of_length_le (by omega)]
          rw [List.getElem?_eq_getElem (by omega)] at hx
          cases hx
          exact hrel
  obtain ⟨cells, h1, h2, h3, h4⟩ := key xs.length (Nat.le_refl _)
  exact ⟨cells, h1, h2, h3, fun i x hx => h4 i x (List.getElem?_eq_some_iff.1 hx).1 hx⟩

theorem run_app {P : Program} {t ty : TypeId} {z : Value} {bytes : Nat} (hu : P.underlying t = some (.slice E)) (hinfo : (P.info? E).map (fun i => (i.zero, i.size, i.bytes)) = some (some z, e.size, bytes)) (hz : z.cells.size = e.size)
    (h : Own e E w base F v xs) (s : Sr e w G A n c ys) (hG : ∀ g, v.ownBlock = some g → ¬ G g) (hb : base ≤ w.heap.size) (hby : 0 < bytes) (hlen : (xs.length + n) * bytes ≤ 140737488355328) :
    ∃ v1 w1, (Builtin.append_ #[t, t] ty #[v, .slice A n c]).run P w = .ok v1 w1 ∧ Own e E w1 base (fun b => F b ∨ (G b ∧ b < w.heap.size)) v1 (xs ++ ys) ∧ w.grownBy w1 v.ownBlock ∧
      (v1.ownBlock = v.ownBlock ∨ v1.ownBlock = some w.heap.size) ∧ (v1 = .slice none 0 0 ↔ v = .slice none 0 0 ∧ n = 0) := by
  obtain ⟨i0, hi, hz0, hz1, hz2⟩ := info_parts hinfo
  obtain ⟨cells, hl, h1, hc, hr⟩ := s.cells
  have hn := s.len
  have hvb := fun g hg => (h.blk (g := g) hg).2
  obtain ⟨cx, ho, hrx, hnx, hlx⟩ := h
  have hlx' := ho.1
  have hlen2 : xs.length + n ≤ 140737488355328 := Nat.le_trans (Nat.le_mul_of_pos_right _ hby) hlen
  have hrel : ∀ w1, w.grownBy w1 v.ownBlock → ∀ i x, (xs ++ ys)[i]? = some x → e.rel w1 (fun b => F b ∨ (G b ∧ b < w.heap.size)) (((cx ++ cells).drop (i * e.size)).take e.size) x := by
    intro w1 hg i x hx
    rcases Nat.lt_or_ge i xs.length with hi' | hi'
    · rw [List.getElem?_append_left hi'] at hx
      rw [drop_take_append _ _ _ _ (by rw [hlx', ← Nat.succ_mul]; exact Nat.mul_le_mul_right _ hi')]
      exact e.keep (hrx i x hx) fun b hb hbl => ⟨hg.block b hbl.lt (fun eq => hnx b eq.symm hb), .inl hb⟩
    · rw [List.getElem?_append_right hi'] at hx
      rw [drop_append_at _ _ _ (by rw [hlx']; exact Nat.mul_le_mul_right _ hi'), hlx', ← Nat.sub_mul]
      exact e.keep (hr _ x hx) fun b hb hbl => ⟨hg.block b hbl.lt (fun eq => hG b eq.symm hb), .inr ⟨hb, hbl.lt⟩⟩
  have hfin : ∀ v1 w1, w1.ownsRow base E e.size v1 (xs.length + n) (cx ++ cells) → w.grownBy w1 v.ownBlock → (v1.ownBlock = v.ownBlock ∨ v1.ownBlock = some w.heap.size) → Own e E w1 base (fun b => F b ∨ (G b ∧ b < w.heap.size)) v1 (xs ++ ys) := by
    intro v1 w1 ho1 hg hat
    refine ⟨cx ++ cells, by rw [List.length_append, hn]; exact ho1, hrel w1 hg, fun g hg1 hbad => ?_, fun b hb => ?_⟩
    · rcases hat with hat | hat
      · rcases hbad with hbad | hbad
        · exact hnx g (hat ▸ hg1) hbad
        · exact hG g (hat ▸ hg1) hbad.1
      · rw [hat] at hg1
        cases hg1
        rcases hbad with hbad | hbad
        · have := hlx _ hbad; omega
        · have := hbad.2; omega
    · have := hg.size
      rcases hb with hb | hb
      · have := hlx b hb; omega
      · have := hb.2; omega
  cases A with
  | some ad =>
    obtain ⟨v1, w1, hrun, h2, h3, h4, h5⟩ := run_append_own_at (P := P) w base t ty E i0 z e.size bytes hu hi hz0 hz1 hz2 hz e.pos v xs.length cx ho ad n c cells hl (hc ad rfl) h1 (by simp only [maxLen]; omega) hlen hb
    exact ⟨v1, w1, hrun, hfin v1 w1 h2 h3 h5, h3, h5, h4⟩
  | none =>
    have hc0 := s.2.2.1.2 rfl
    have hn0 : n = 0 := by have := s.2.1; omega
    subst hc0
    subst hn0
    have hcn : cells = [] := List.eq_nil_of_length_eq_zero (by simpa using hl)
    subst hcn
    refine ⟨v, w, run_append_owned_none (P := P) w base t ty E i0 e.size hu hi v xs.length cx ho, hfin v w (by simpa using ho) (World.grownBy.refl _ _) (.inl rfl), World.grownBy.refl _ _, .inl rfl, by simp⟩

/-- at the operation, for the walk: 'at_builtin; refine wpl_app ..' -/
theorem wpl_app {P : Program} {ops : Array Oper} {rest : List Oper} {o : Oper} {a : Act} {Q : Exit → Act → World → Prop} (hgd : o.guard = none) (so xo : Operand) (t : TypeId)
    (ho : o.op = .call { callee := .builtin .append, args := #[so, xo], argTypes := #[t, t] })
    {z : Value} {bytes : Nat} (hu : P.underlying t = some (.slice E)) (hinfo : (P.info? E).map (fun i => (i.zero, i.size, i.bytes)) = some (some z, e.size, bytes)) (hz : z.cells.size = e.size)
    (hs : a.eval so = v) (hx : a.eval xo = .slice A n c)
    (h : Own e E w base F v xs) (s : Sr e w G A n c ys) (hG : ∀ g, v.ownBlock = some g → ¬ G g) (hb : base ≤ w.heap.size) (hby : 0 < bytes) (hlen : (xs.length + n) * bytes ≤ 140737488355328)
    (hK : ∀ v1 w1, Own e E w1 base (fun b => F b ∨ (G b ∧ b < w.heap.size)) v1 (xs ++ ys) → w.grownBy w1 v.ownBlock → (v1.ownBlock = v.ownBlock ∨ v1.ownBlock = some w.heap.size) → (v1 = .slice none 0 0 ↔ v = .slice none 0 0 ∧ n = 0) →
      wpList P ops Q rest (a.put o.dst v1) w1) :
    wpList P ops Q (o :: rest) a w := by
  refine wpList_plain hgd fun K hK' => ?_
  obtain ⟨v1, w1, hr, h2, h3, h4, h5⟩ := run_app (P := P) (ty := o.type) hu hinfo hz h s hG hb hby hlen
  unfold Oper.wp execOp
  simp only [ho, resolve, invoke, builtin, Sem.run_bind, Sem.run_pure, Result.andThen_ok, List.map_toArray, List.map_cons, List.map_nil, hs, hx, hr]
  exact hK' _ _ (hK v1 w1 h2 h3 h4 h5)

/-- 'append(v, y)' lays y in a block of its own first: that block as a slice of one. -/
theorem Sr.box {cs : List Value} {y : α} (h : e.rel w G cs y) (E' : TypeId) : Sr e (w.alloc (.cells cs.toArray E')) G (some ⟨w.heap.size, 0, none⟩) 1 1 [y] := by
  refine ⟨rfl, by omega, ⟨by omega, fun h => by cases h⟩, fun i x hx => ?_⟩
  match i, hx with
  | 0, hx =>
    simp at hx
    subst hx
    refine ⟨_, cs, rfl, e.keep h fun b hb hbl => ⟨Below.heap_alloc w _ b hbl.lt, hb⟩, fun j u hu => ?_⟩
    rw [Nat.zero_mul, Nat.zero_add]
    exact World.news_of_block (w := w.alloc (.cells cs.toArray E')) (cs := cs.toArray) (t := E') (fr := (0, 0)) (heap_alloc_new w _) j u (by simpa using hu)
theorem Own.fresh (h : Own e E w base F v xs) : ∀ g, v.ownBlock = some g → g ≠ w.heap.size := fun g hg => by have := (h.blk hg).2; omega
end
/-! ### stores into a row of one's own; rows that lead to rows of one's own -/
section
variable {α β : Type} {e : Enc α} {e' : Enc β} {E : TypeId} {w w' : World} {base : Nat} {F F' : Nat → Prop} {v : Value} {xs : List α} {ys : List β} {g c : Nat}
theorem Own.len {A : Option Addr} {n : Nat} (h : Own e E w base F (.slice A n c) xs) : xs.length = n := by
  obtain ⟨A', c', h1, _⟩ := h.form
  cases h1; rfl
theorem Own.blockOf {A : Option Addr} {n : Nat} (h : Own e E w base F (.slice A n c) xs) (hn : 0 < n) : ∃ g, A = some ⟨g, 0, none⟩ ∧ base ≤ g ∧ g < w.heap.size := by
  obtain ⟨A', c', h1, _, _, h2⟩ := h.form
  cases h1
  exact h2 hn
theorem Own.cell1 {n : Nat} (h : Own e E w base F (.slice (some ⟨g, 0, none⟩) n c) xs) (hs : e.size = 1) (i : Nat) (hi : i < xs.length) :
    ∃ u, w.cell? ⟨g, i, none⟩ = some u ∧ w.frozen? ⟨g, i, none⟩ = false ∧ e.rel w F [u] xs[i] := by
  have hn := h.len
  subst hn
  obtain ⟨cells, ho, hr, _⟩ := h
  have hl := ho.1
  rw [hs, Nat.mul_one] at hl
  have hrel := hr i _ (List.getElem?_eq_getElem hi)
  rw [hs, Nat.mul_one] at hrel
  have hci : i < cells.length := by omega
  have h1 : (cells.drop i).take 1 = [cells[i]] := by rw [List.drop_eq_getElem_cons hci]; rfl
  rw [h1] at hrel
  refine ⟨_, ?_, ho.frozenAt i, hrel⟩
  rw [ho.cellAt i (by rw [hs]; omega), List.getElem?_eq_getElem hci]
theorem Own.store1 {n : Nat} (h : Own e E w base F (.slice (some ⟨g, 0, none⟩) n c) xs) (hs : e.size = 1) (i : Nat) (hi : i < xs.length) {u : Value} {y : α} (hy : e.rel w F [u] y) :
    Own e E (w.setCell ⟨g, i, none⟩ u) base F (.slice (some ⟨g, 0, none⟩) n c) (xs.set i y) := by
  have hn := h.len
  subst hn
  obtain ⟨cells, ho, hr, hn, hl⟩ := h
  have hgF : ¬ F g := hn g rfl
  have hk := KeepF.setCell w ⟨g, i, none⟩ u F hgF
  have hlen := ho.1
  rw [hs, Nat.mul_one] at hlen
  refine ⟨cells.set i u, by rw [List.length_set]; exact (ho.stored i u).1, fun j x hx => ?_, hn, fun b hb => by simpa [World.setCell] using hl b hb⟩
  rw [hs, Nat.mul_one]
  have hj : j < xs.length := by have := (List.getElem?_eq_some_iff.1 hx).1; rwa [List.length_set] at this
  have hcj : j < (cells.set i u).length := by rw [List.length_set]; omega
  have h1 : ((cells.set i u).drop j).take 1 = [(cells.set i u)[j]] := by rw [List.drop_eq_getElem_cons hcj]; rfl
  rw [h1, List.getElem_set]
  by_cases hij : i = j
  · subst hij
    rw [if_pos rfl]
    rw [List.getElem?_set_self hi] at hx
    cases hx
    exact e.keep hy hk
  · rw [if_neg hij]
    rw [List.getElem?_set_ne hij] at hx
    have h0 := hr j x hx
    rw [hs, Nat.mul_one] at h0
    have h2 : (cells.drop j).take 1 = [cells[j]'(by omega)] := by rw [List.drop_eq_getElem_cons (by omega)]; rfl
    rw [h2] at h0
    exact e.keep h0 hk
/-- the same row, read otherwise -/
theorem Own.as (h : Own e E w base F v xs) (hs : e'.size = e.size) (hl : ys.length = xs.length) (hr : ∀ (i : Nat) (x : α) (y : β), xs[i]? = some x → ys[i]? = some y → ∀ vs, e.rel w F vs x → e'.rel w F' vs y)
    (hv : ∀ g, v.ownBlock = some g → ¬ F' g) (hF : ∀ b, F' b → b < w.heap.size) : Own e' E w base F' v ys := by
  obtain ⟨cells, ho, hr0, _, _⟩ := h
  refine ⟨cells, by rw [hs, hl]; exact ho, fun i y hy => ?_, hv, hF⟩
  have hi : i < xs.length := by rw [← hl]; exact (List.getElem?_eq_some_iff.1 hy).1
  rw [hs]
  exact hr i _ y (List.getElem?_eq_getElem hi) hy _ (hr0 i _ (List.getElem?_eq_getElem hi))
theorem Sl.as {A : Option Addr} {n : Nat} (h : Sl e w F A n c xs) (hs : e'.size = e.size) (hl : ys.length = xs.length) (hF : ∀ b, F b → F' b) (hr : ∀ (i : Nat) (x : α) (y : β), xs[i]? = some x → ys[i]? = some y → ∀ vs, e.rel w F vs x → e'.rel w F' vs y) : Sl e' w F' A n c ys := by
  refine ⟨by rw [hl]; exact h.1, h.2.1, h.2.2.1, fun i y hy => ?_⟩
  have hi : i < xs.length := by rw [← hl]; exact (List.getElem?_eq_some_iff.1 hy).1
  obtain ⟨ad, cs, hA, hb, hrel, hc⟩ := h.2.2.2 i _ (List.getElem?_eq_getElem hi)
  exact ⟨ad, cs, hA, hF _ hb, hr i _ y (List.getElem?_eq_getElem hi) hy _ hrel, by rw [hs]; exact hc⟩
end
/-- bytes in a row of the call's own, element type E (it may be written) -/
def Enc.obytes (E : TypeId) : Enc (List Int) where
  size := 1
  rel w F vs xs := ∃ v, vs = [v] ∧ Own Enc.u8 E w 0 (fun _ => False) v xs ∧ ∀ g, v.ownBlock = some g → F g
  pos := by omega
  len h := by obtain ⟨_, rfl, _⟩ := h; rfl
  one h u hu := by obtain ⟨v, rfl, h, _⟩ := h; obtain ⟨A, c, rfl, _⟩ := h.form; simp at hu; rw [hu]; rfl
  keep := by
    intro w w' F F' vs a h k
    obtain ⟨v, rfl, ⟨cells, ho, hr, hn, hl⟩, hF⟩ := h
    refine ⟨v, rfl, ⟨cells, ⟨ho.1, ?_⟩, fun i x hx => hr i x hx, hn, fun _ h => h.elim⟩, fun g hg => ?_⟩
    · rcases ho.2 with h0 | ⟨g, cap, cur, rfl, h1, h2, h3⟩
      · exact .inl h0
      · exact .inr ⟨g, cap, cur, rfl, h1, ((k g (hF g rfl) ⟨_, _, _, h2⟩).1).trans h2, h3⟩
    · rcases ho.2 with ⟨rfl, _⟩ | ⟨g', cap, cur, rfl, h1, h2, h3⟩
      · simp [Value.ownBlock] at hg
      · have e : g' = g := by simpa [Value.ownBlock] using hg
        subst e
        exact (k _ (hF _ rfl) ⟨_, _, _, h2⟩).2
theorem Enc.obytes_bytes {E : TypeId} {w : World} {F : Nat → Prop} {vs : List Value} {xs : List Int} (h : (Enc.obytes E).rel w F vs xs) : Enc.bytes.rel w F vs xs := by
  obtain ⟨v, rfl, h, hF⟩ := h
  obtain ⟨A, c, rfl, hs⟩ := h.sl (F' := F) (fun _ h => h.elim) hF
  exact ⟨A, _, c, rfl, hs⟩
/-- some of one's own, some not (told by the first part) -/
def Enc.mix (E : TypeId) (base : Nat) : Enc (Bool × List Int) where
  size := 1
  rel w F vs p := if p.1 = true then (Enc.obytes E).rel w (fun b => F b ∧ base ≤ b) vs p.2 else Enc.bytes.rel w F vs p.2
  pos := by omega
  len h := by
    split at h
    · exact (Enc.obytes E).len h
    · exact Enc.bytes.len h
  one h := by
    split at h
    · exact (Enc.obytes E).one h
    · exact Enc.bytes.one h
  keep h k := by
    split at h
    · rename_i hp; rw [if_pos hp]; exact (Enc.obytes E).keep h fun b hb hl => ⟨(k b hb.1 hl).1, (k b hb.1 hl).2, hb.2⟩
    · rename_i hp; rw [if_neg hp]; exact Enc.bytes.keep h k

theorem Enc.mix_true {E : TypeId} {base : Nat} {w : World} {F : Nat → Prop} {vs : List Value} {x : List Int} (h : (Enc.obytes E).rel w (fun b => F b ∧ base ≤ b) vs x) : (Enc.mix E base).rel w F vs (true, x) := by
  simp only [Enc.mix, if_true]; exact h

/-! ### bytes as a string -/
def bs (xs : List Int) : ByteArray := ⟨(xs.map fun x => UInt8.ofNat x.toNat).toArray⟩
theorem run_conv {P : Program} {w : World} {F : Nat → Prop} {A : Option Addr} {n c : Nat} {xs : List Int} {src E dst : TypeId} (hs : P.underlying src = some (.slice E)) (he : P.underlying E = some (.int .u8)) (hd : P.underlying dst = some .string)
    (h : Sl Enc.u8 w F A n c xs) : (convert src dst (.slice A n c)).run P w = .ok (.string (bs xs)) w := by
  cases A with
  | none =>
    have h0 := h.2.2.1.2 rfl
    have h1 := h.2.1
    have h2 : xs = [] := List.eq_nil_of_length_eq_zero (by have := h.1; omega)
    subst h2
    exact run_convert_bytes_nil w src E hs he n c dst hd
  | some ad =>
    have hl : n = (xs.map fun x => UInt8.ofNat x.toNat).length := by rw [List.length_map]; exact h.1
    rw [hl]
    refine run_convert_bytes_back w src dst E ad c _ hs he hd fun j hj => ?_
    rw [List.length_map] at hj
    obtain ⟨ad', hA, _, hc⟩ := h.int j hj
    cases hA
    have hb := bounds_u8 (h.wf _ (List.getElem_mem hj))
    rw [hc, List.getElem_map]
    congr 2
    have h2 : (UInt8.ofNat xs[j].toNat).toNat = xs[j].toNat % 256 := by simp
    rw [h2]
    omega
theorem bs_inj {xs ys : List Int} (hx : ∀ x ∈ xs, (Lit.int .u8 x).wf = true) (hy : ∀ x ∈ ys, (Lit.int .u8 x).wf = true) (h : bs xs = bs ys) : xs = ys := by
  have h1 : (xs.map fun x => UInt8.ofNat x.toNat) = ys.map fun x => UInt8.ofNat x.toNat := by
    have := congrArg ByteArray.data h
    simpa [bs] using this
  have key : ∀ l : List Int, (∀ x ∈ l, (Lit.int .u8 x).wf = true) → (l.map fun x => UInt8.ofNat x.toNat).map (fun b => (b.toNat : Int)) = l := by
    intro l hl
    rw [List.map_map]
    conv => rhs; rw [← List.map_id l]
    refine List.map_congr_left fun x hx => ?_
    have hb := bounds_u8 (hl x hx)
    have h2 : (UInt8.ofNat x.toNat).toNat = x.toNat % 256 := by simp
    simp only [Function.comp, h2, id]
    omega
  rw [← key xs hx, ← key ys hy, h1]

/-- rows of numbers lead nowhere -/
theorem Own.int {k : IntKind} {E : TypeId} {w : World} {base : Nat} {F : Nat → Prop} {v : Value} {xs : List Int} (h : Own (Enc.int k) E w base F v xs) : Own (Enc.int k) E w base (fun _ => False) v xs := by
  obtain ⟨cells, ho, hr, _, _⟩ := h
  exact ⟨cells, ho, hr, fun _ _ h => h, fun _ h => h.elim⟩
theorem Own.bool {E : TypeId} {w : World} {base : Nat} {F : Nat → Prop} {v : Value} {xs : List Bool} (h : Own Enc.bool E w base F v xs) : Own Enc.bool E w base (fun _ => False) v xs := by
  obtain ⟨cells, ho, hr, _, _⟩ := h
  exact ⟨cells, ho, hr, fun _ _ h => h, fun _ h => h.elim⟩
end Go.Proofs.Ytdgcfgiedclmcaa
