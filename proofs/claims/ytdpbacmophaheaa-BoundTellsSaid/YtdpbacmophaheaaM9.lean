/- Contracts: the document's layout, its counts; the bytes of a state; what ops draw. -/
import Derived.Test.YtdpbacmophaheaaM8
namespace Go.Proofs.Ytdpbacmophaheaa
open Go.RowKit

theorem Try.infoInt : (Try.prog.info? 3).map (fun i => (i.zero, i.size, i.bytes)) = some (some (.int .i64 0), 1, 8) := by kernel_rfl

set_option maxHeartbeats 2000000 in
theorem ref_lay (w : World) (a b c d : Int) (hg : geomB a b c d = true) :
    Calls Try.prog 59 #[.agg #[.int .i64 a, .int .i64 b, .int .i64 c, .int .i64 d]] w fun e w' => e = .returned (layV a b c d) ∧ Below w.heap.size w w' := by
  have HV : Hid (layV a b c d = .agg #[.int .i64 0, .int .i64 2, .int .i64 2, .int .i64 (sizeN (metaS a b c d + 1) a), .int .i64 (2 + sizeN (metaS a b c d + 1) a), .int .i64 (metaS a b c d), .int .i64 (2 + sizeN (metaS a b c d + 1) a + metaS a b c d), .int .i64 d, .int .i64 (2 + sizeN (metaS a b c d + 1) a + metaS a b c d + d)]) := Lib.hid rfl
  obtain ⟨-, h1, h2, h3, h4, h5, h6, h7, h8⟩ := geomB_in hg
  obtain ⟨hb1, hb2⟩ := metaS_bd hg
  have hz := index_bd (n := metaS a b c d + 1) (s := a) (by omega) (by omega) h1
  have hz2 : 0 ≤ sizeN (metaS a b c d + 1) a ∧ sizeN (metaS a b c d + 1) a ≤ 20000 := by unfold sizeN; omega
  clear hz
  obtain ⟨hz1, hz2⟩ := hz2
  have HM := Lib.hid fun W => ref_meta W a b c d hg
  have HS := Lib.hid fun W => ref_size W (metaS a b c d + 1) a (by omega) (by omega) h1 h2
  clear hg
  generalize sizeN (metaS a b c d + 1) a = z at *
  generalize metaS a b c d = s at *
  generalize metaN b c d = N at *
  go_enter Try.func59, Try.ntmps59
  go_wp2_with fail
  refine (HM.out _).mono ?_
  rintro e w1 ⟨rfl, hb1⟩
  obtain ⟨hc, hf⟩ := bcell hb1
  have hs1 := hb1.size
  simp only [World.size_alloc] at hs1
  go_wp2_with (go_at_call 18; refine (HS.out _).mono ?_; rintro e w2 ⟨rfl, rfl⟩)
  refine bodyPost_ret (v := layV a b c d) (by rw [HV.out]; simp [results, Try.results59, go_sem, hc]) rfl ⟨rfl, ?_⟩
  iterate 9 refine Below.setCell ?_ (by simp) _
  exact (((Below.refl _ _).alloc (Nat.le_refl _) _).alloc (by simp) _).trans (hb1.mono (by simp; omega))

def drawsB (k : Int) : Bool := (k == 2) || (k == 3) || (k == 4) || (k == 5) || (k == 10)
set_option maxHeartbeats 400000 in
theorem op_draws (w : World) (k : Int) : Calls Try.prog 121 #[.int .i64 k] w fun e w' => e = .returned (.bool (drawsB k)) ∧ w = w' := by
  generalize hr : drawsB k = r
  have HR := Lib.hid hr; clear hr
  go_enter Try.func121, Try.ntmps121
  go_wp2
  all_goals
    go_ret
    exact ⟨ret_bool (by rw [← HR.out]; simp [drawsB, *]), rfl⟩

/-- an op that is its kind alone -/
def Enc.opk : Enc Int where
  size := 7
  rel _ _ vs k := vs = [.int .i64 k, .int .i64 0, .int .i64 0, .int .i64 0, .int .i64 0, .slice none 0 0, .slice none 0 0]
  pos := by omega
  len h := by rw [h]; rfl
  one h u hu := by rw [h] at hu; simp at hu; rcases hu with rfl | rfl | rfl <;> rfl
  keep h _ := h
theorem Sl.opk {w : World} {F : Nat → Prop} {A : Option Addr} {n c : Nat} {xs : List Int} (h : Sl Enc.opk w F A n c xs) (i : Nat) (hi : i < xs.length) :
    ∃ ad, A = some ad ∧ w.cell? (ad.add (i * 7)) = some (.int .i64 xs[i]) ∧ w.cell? ⟨(ad.add (i * 7)).block, (ad.add (i * 7)).off + 1, none⟩ = some (.int .i64 0) ∧
      w.cell? ⟨(ad.add (i * 7)).block, (ad.add (i * 7)).off + 2, none⟩ = some (.int .i64 0) ∧ w.cell? ⟨(ad.add (i * 7)).block, (ad.add (i * 7)).off + 3, none⟩ = some (.int .i64 0) ∧
      w.cell? ⟨(ad.add (i * 7)).block, (ad.add (i * 7)).off + 4, none⟩ = some (.int .i64 0) ∧ w.cell? ⟨(ad.add (i * 7)).block, (ad.add (i * 7)).off + 5, none⟩ = some (.slice none 0 0) ∧
      w.cell? ⟨(ad.add (i * 7)).block, (ad.add (i * 7)).off + 6, none⟩ = some (.slice none 0 0) := by
  obtain ⟨ad, vs, hA, hF, rfl, hc⟩ := h.get i hi
  exact ⟨ad, hA, hc 0 _ rfl, cell_fld (by omega) (hc 1 _ rfl), cell_fld (by omega) (hc 2 _ rfl), cell_fld (by omega) (hc 3 _ rfl), cell_fld (by omega) (hc 4 _ rfl), cell_fld (by omega) (hc 5 _ rfl), cell_fld (by omega) (hc 6 _ rfl)⟩
def drawsTo (l : List Int) (k : Nat) : Nat := 64 * ((l.take k).filter drawsB).length
theorem drawsTo_succ {l : List Int} {k : Nat} (hk : k < l.length) : drawsTo l (k + 1) = drawsTo l k + if drawsB l[k] then 64 else 0 := by
  unfold drawsTo
  rw [List.take_succ_eq_append_getElem hk, List.filter_append]
  cases h : drawsB l[k] <;> simp [h]; omega
theorem drawsTo_bd (l : List Int) (k : Nat) : drawsTo l k ≤ 64 * k := by
  unfold drawsTo
  have := List.length_filter_le drawsB (l.take k)
  rw [List.length_take] at this; omega

section
variable {w : World} {F G : Nat → Prop} {A B : Option Addr} {n c m d : Nat}
set_option maxHeartbeats 1000000 in
theorem bound_draws {l : List Int} (h : Sl Enc.opk w F A n c l) (hn : n ≤ 1000) :
    Calls Try.prog 66 #[.slice A n c] w fun e w' => e = .returned (.int .i64 (drawsTo l n)) ∧ Below w.heap.size w w' := by
  have hln := h.len
  have HB := Lib.hid fun k => drawsTo_bd l k
  clear hln
  go_enter Try.func66, Try.ntmps66
  go_wp2
  go_loopw [3, 8] (fun s i wr => ∃ k : Nat, k ≤ n ∧ i = .int .i64 k ∧ s = .int .i64 (drawsTo l k) ∧ Below w.heap.size w wr) (fun _ i _ => n - (intOf i).toNat)
  case atStart => exact ⟨0, by omega, by simp, by simp [drawsTo], .refl _ _⟩
  case round =>
    obtain ⟨k, hk, rfl, rfl, hd⟩ := hrel
    have hsz := hd.size
    replace h := h.all hd
    by_cases hlt : k < n
    · have hka := h.lt hlt
      obtain ⟨ad, rfl, a0, a1, a2, a3, a4, a5, a6⟩ := h.opk k hka
      have HS := Lib.hid (drawsTo_succ hka)
      have hbk := HB.out k
      have HO := Lib.hid fun W => op_draws W l[k]
      obtain ⟨x, hx⟩ : ∃ x, l[k] = x := ⟨_, rfl⟩
      rw [hx] at a0 HS HO
      generalize drawsTo l k = s at *
      have HH := Lib.hid h
      have HD := Lib.hid hd
      clear h hx hd
      cases hq : drawsB x
      · rw [hq] at HO HS
        clear hq
        go_wp2_with (go_at_call 121; refine (HO.out _).mono ?_; rintro e w2 ⟨rfl, rfl⟩)
        go_roundw
        case rel => exact ⟨k + 1, by omega, by go_num, by rw [HS.out]; simp, HD.out.alloc hsz _⟩
        case measure => simp [intOf]; omega
      · rw [hq] at HO HS
        clear hq
        go_wp2_with (go_at_call 121; refine (HO.out _).mono ?_; rintro e w2 ⟨rfl, rfl⟩)
        refine (bound_sum (l := [(s : Int), 64]) (Sl.ints [(s : Int), 64] (heap_alloc_at (by simp)) (by simp <;> omega) (by simp)) (by simp <;> omega) (by simp)).mono ?_
        rintro e w2 ⟨rfl, rfl⟩
        go_wp2
        go_roundw
        case rel => exact ⟨k + 1, by omega, by go_num, by rw [HS.out]; simp, (HD.out.alloc hsz _).alloc (by simp; omega) _⟩
        case measure => simp [intOf]; omega
    · have hkn : k = n := by omega
      subst hkn
      go_wp2
      go_ret
      exact ⟨rfl, hd⟩
end
end Go.Proofs.Ytdpbacmophaheaa
