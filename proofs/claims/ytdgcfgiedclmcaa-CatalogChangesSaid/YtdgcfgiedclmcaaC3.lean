/- Contracts: clones; bytes.Equal; slices.EqualFunc over it; crash.Same. -/
import Derived.Test.YtdgcfgiedclmcaaC1
namespace Go.Proofs.Ytdgcfgiedclmcaa
open Go.RowKit

theorem Try.infoU8 : (Try.prog.info? 5).map (fun i => (i.zero, i.size, i.bytes)) = some (some (.int .u8 0), 1, 1) := by kernel_rfl
theorem Try.infoBytes : (Try.prog.info? 38).map (fun i => (i.zero, i.size, i.bytes)) = some (some (.slice none 0 0), 1, 24) := by kernel_rfl

section
variable {w : World} {F G : Nat → Prop} {A B : Option Addr} {n c m d : Nat}
theorem byteArray_toList_inj {a b : ByteArray} (h : a.toList = b.toList) : a = b := by
  rw [ByteArray.toList_eq, ByteArray.toList_eq] at h
  cases a; cases b; simpa using h
theorem bs_eq {a b : List Int} (h : bs a = bs b → a = b) : ((bs a).toList == (bs b).toList) = decide (a = b) := by
  by_cases e : a = b
  · subst e; simp
  · have : ¬ (bs a).toList = (bs b).toList := fun h' => e (h (byteArray_toList_inj h'))
    simp [e, this]
set_option maxHeartbeats 400000 in
/-- slices.Clone of bytes: a row of the call's own (nil of nil) -/
theorem clone_bytes {a : List Int} (h : Sl Enc.u8 w F A n c a) (hn : n ≤ 140737488351232) :
    Calls Try.prog 70 #[.slice A n c] w fun e w' => ∃ v, e = .returned v ∧ Own Enc.u8 5 w' w.heap.size (fun _ => False) v a ∧ Below w.heap.size w w' := by
  have hnil := fun (W : World) => Lib.run_eql_slice_nil (P := Try.prog) W 38 5 A n c 0 0 Try.underlying38
  cases A with
  | none =>
    have h3 : a = [] := List.eq_nil_of_length_eq_zero (by have h0 := h.2.2.1.2 rfl; have h1 := h.2.1; have := h.1; omega)
    subst h3
    go_enter Try.func70, Try.ntmps70
    go_wp2
    go_ret
    exact ⟨_, rfl, Own.nil _ _ _ _, .refl _ _⟩
  | some ad =>
    have HS := Lib.hid (h.old.keep (.alloc w (.cells #[] 5) _)); have hl := h.len; clear h
    go_enter Try.func70, Try.ntmps70
    go_wp2_with (at_builtin; refine wpl_app (e := Enc.u8) rfl _ _ 38 rfl Try.underlying38 Try.infoU8 rfl rfl rfl (Own.litNil _ _ w w.heap.size (Nat.le_refl _)) HS.out.sr (fun g hg hb => by cases hg; exact absurd hb.2 (Nat.lt_irrefl _)) (by simp) (by omega) (by simp; omega) ?_; intro v1 w1 ho hg hat _)
    go_ret
    exact ⟨_, rfl, ho.int, ((Below.refl _ _).alloc (Nat.le_refl _) _).grown hg (by simp) (fun k hk => by cases hk; exact Nat.le_refl _)⟩

set_option maxHeartbeats 400000 in
/-- slices.Clone of rows: the row is new, what it leads to is the old one's -/
theorem clone_rows {a : List (List Int)} (h : Sl Enc.bytes w F A n c a) (hn : n ≤ 4398046511104) :
    Calls Try.prog 106 #[.slice A n c] w fun e w' => ∃ v, e = .returned v ∧ Own Enc.bytes 38 w' w.heap.size (fun b => F b ∧ b < w.heap.size) v a ∧ Below w.heap.size w w' := by
  have hnil := fun (W : World) => Lib.run_eql_slice_nil (P := Try.prog) W 22 38 A n c 0 0 Try.underlying22
  cases A with
  | none =>
    have h3 : a = [] := List.eq_nil_of_length_eq_zero (by have h0 := h.2.2.1.2 rfl; have h1 := h.2.1; have := h.1; omega)
    subst h3
    go_enter Try.func106, Try.ntmps106
    go_wp2
    go_ret
    exact ⟨_, rfl, (Own.nil _ _ _ _).weaken (fun _ h => h.elim) (fun g hg => by cases hg) (fun _ h => h.2), .refl _ _⟩
  | some ad =>
    have HS := Lib.hid (h.old.keep (.alloc w (.cells #[] 38) _)); have hl := h.len; clear h
    go_enter Try.func106, Try.ntmps106
    go_wp2_with (at_builtin; refine wpl_app (e := Enc.bytes) rfl _ _ 22 rfl Try.underlying22 Try.infoBytes rfl rfl rfl (Own.litNil _ _ w w.heap.size (Nat.le_refl _)) HS.out.sr (fun g hg hb => by cases hg; exact absurd hb.2 (Nat.lt_irrefl _)) (by simp) (by omega) (by simp; omega) ?_; intro v1 w1 ho hg hat _)
    go_ret
    have hb := ((Below.refl w.heap.size w).alloc (Nat.le_refl _) _).grown hg (by simp) (fun k hk => by cases hk; exact Nat.le_refl _)
    refine ⟨_, rfl, ho.weaken (fun b hb => ?_) (fun g hg hb => ?_) (fun b hb' => ?_), hb⟩
    · rcases hb with hb | hb
      · exact hb.elim
      · exact hb.1
    · have := (ho.blk hg).1; have := hb.2; omega
    · have := hb'.2; have := hb.size; omega

set_option maxHeartbeats 400000 in
theorem bytes_equal {a b : List Int} (ha : Sl Enc.u8 w F A n c a) (hb : Sl Enc.u8 w G B m d b) :
    Calls Try.prog 62 #[.slice A n c, .slice B m d] w fun e w' => e = .returned (.bool (decide (a = b))) ∧ Dr w w' := by
  have hca := run_conv (P := Try.prog) Try.underlying38 Try.underlying5 Try.underlying9 ha
  have hcb := run_conv (P := Try.prog) Try.underlying38 Try.underlying5 Try.underlying9 hb
  have HI := Lib.hid (bs_inj ha.wf hb.wf)
  go_enter Try.func62, Try.ntmps62
  go_wp2
  go_ret
  refine ⟨ret_bool ?_, .refl _⟩
  show ((bs a).toList == (bs b).toList) = decide (a = b)
  exact bs_eq HI.out
end
end Go.Proofs.Ytdgcfgiedclmcaa
