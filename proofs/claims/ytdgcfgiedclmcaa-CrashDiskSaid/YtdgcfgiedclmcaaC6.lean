/- Contract: crash.done. -/
import Derived.Test.YtdgcfgiedclmcaaC5
namespace Go.Proofs.Ytdgcfgiedclmcaa
open Go.RowKit

/-- A function value that answers of numbers below N, in every world in which what lay in w lies as it lay. -/
def PredI (w : World) (N : Nat) (g : FuncId) (lb : Array Value) (p : Nat → Bool) : Prop :=
  (∀ args w, (callFunc g args).run Try.prog w = .ok (.enter g args) w) ∧ ∀ (W : World) (i : Nat), i < N → Below w.heap.size w W →
    Calls Try.prog g (#[.int .i64 (i : Int)] ++ lb) W fun e w' => e = .returned (.bool (p i)) ∧ Below W.heap.size W w'

def wstep (p : Nat → Bool) (ws : List Entry) (im : List (List Int)) (i : Nat) : List (List Int) := if p i then im.set (ws.getD i (0, [])).1.toNat (ws.getD i (0, [])).2 else im
/-- an image with those of the first k writes that are kept -/
def doneTo (p : Nat → Bool) (ws : List Entry) (im : List (List Int)) (k : Nat) : List (List Int) := (List.range k).foldl (wstep p ws) im
theorem doneTo_succ (p : Nat → Bool) (ws : List Entry) (im : List (List Int)) (k : Nat) : doneTo p ws im (k + 1) = wstep p ws (doneTo p ws im k) k := by
  simp [doneTo, List.range_succ, List.foldl_append]
theorem wstep_length (p : Nat → Bool) (ws : List Entry) (im : List (List Int)) (i : Nat) : (wstep p ws im i).length = im.length := by
  unfold wstep; split <;> simp
theorem doneTo_length (p : Nat → Bool) (ws : List Entry) (im : List (List Int)) (k : Nat) : (doneTo p ws im k).length = im.length := by
  induction k with
  | zero => rfl
  | succ k ih => rw [doneTo_succ, wstep_length, ih]
theorem wstep_no {p : Nat → Bool} {ws : List Entry} {im : List (List Int)} {k : Nat} (h : p k = false) : wstep p ws im k = im := by simp [wstep, h]
theorem wstep_yes {p : Nat → Bool} {ws : List Entry} {im : List (List Int)} {k : Nat} (h : p k = true) (hk : k < ws.length) : wstep p ws im k = im.set ws[k].1.toNat ws[k].2 := by simp [wstep, h, List.getD, hk]
theorem doneTo_short {N : Nat} {p : Nat → Bool} {ws : List Entry} {im : List (List Int)} (hi : ∀ x ∈ im, x.length ≤ N) (hw : ∀ x ∈ ws, x.2.length ≤ N) (k : Nat) (hk : k ≤ ws.length) : ∀ x ∈ doneTo p ws im k, x.length ≤ N := by
  induction k with
  | zero => exact hi
  | succ k ih =>
    rw [doneTo_succ]
    cases hp : p k with
    | false => rw [wstep_no hp]; exact ih (by omega)
    | true =>
      rw [wstep_yes hp (by omega)]
      intro x hx
      rcases List.mem_or_eq_of_mem_set hx with hx | rfl
      · exact ih (by omega) x hx
      · exact hw _ (List.getElem_mem _)

/-- rows of which the first k are of the call's own -/
def mixL (L : List (List Int)) (k : Nat) : List (Bool × List Int) := (List.range L.length).map fun i => (decide (i < k), L.getD i [])
theorem mixL_length (L : List (List Int)) (k : Nat) : (mixL L k).length = L.length := by simp [mixL]
theorem mixL_get {L : List (List Int)} {k i : Nat} {y : Bool × List Int} (h : (mixL L k)[i]? = some y) : i < L.length ∧ y = (decide (i < k), L.getD i []) := by
  have hi : i < L.length := by have := (List.getElem?_eq_some_iff.1 h).1; rwa [mixL_length] at this
  refine ⟨hi, ?_⟩
  simp [mixL, hi] at h
  rw [← h]
  simp [List.getD, hi]
theorem mixL_set {L : List (List Int)} {k : Nat} (hk : k < L.length) : (mixL L k).set k (true, L[k]) = mixL L (k + 1) := by
  apply List.ext_getElem
  · simp [mixL]
  · intro i h1 h2
    rw [List.length_set, mixL_length] at h1
    rw [List.getElem_set]
    by_cases e : k = i
    · subst e; simp [mixL, hk]
    · rw [if_neg e]
      simp only [mixL, List.getElem_map, List.getElem_range]
      congr 1
      simp only [decide_eq_decide]
      omega

section
variable {w : World} {F G : Nat → Prop} {A B : Option Addr} {n c m d : Nat}
set_option maxHeartbeats 1000000 in
theorem done_any {im : List (List Int)} {ws : List Entry} {f : FuncId} {lb : Array Value} {p : Nat → Bool} (h : Sl Enc.bytes w F A n c im) (g : Sl Enc.entry w G B m d ws) (hp : PredI w ws.length f lb p)
    (hin : ∀ x ∈ ws, 0 ≤ x.1 ∧ x.1 < n) (hn : n ≤ 4096) (hi : ∀ x ∈ im, x.length ≤ 4096) (hw : ∀ x ∈ ws, x.2.length ≤ 4096) :
    Calls Try.prog 63 #[.slice A n c, .slice B m d, .func (.func f) #[] lb] w fun e w' => ∃ v F', e = .returned v ∧ Own (Enc.obytes 5) 38 w' w.heap.size F' v (doneTo p ws im ws.length) ∧ (∀ b, F' b → w.heap.size ≤ b) ∧ Below w.heap.size w w' := by
  have hm := g.max
  have hln := h.len
  have hlm := g.len
  have HIN := Lib.hid hin; clear hin
  have HI := Lib.hid hi; clear hi
  have HW := Lib.hid hw; clear hw
  obtain ⟨eg, hp⟩ := hp
  have HP := Lib.hid hp; clear hp
  have HC := Lib.hid (clone_rows h (by omega))
  clear h
  go_enter Try.func63, Try.ntmps63
  go_wp2_with fail
  refine HC.out.mono ?_
  rintro e w1 ⟨v, rfl, ho, hd⟩
  have hsz1 := hd.size
  obtain ⟨A0, c0, hv0, -, hcm0, -⟩ := ho.form
  rw [hln] at hv0
  subst hv0
  -- what elements may lead to
  have HO := Lib.hid (ho.weaken (F' := fun b => b < w.heap.size) (fun b hb => hb.2) (fun g hg hb => by have := (ho.blk hg).1; omega) (fun b hb => by omega))
  clear ho HC
  go_wp2
  go_loopw [16] (fun i wr => ∃ k : Nat, k ≤ m ∧ i = .int .i64 k ∧ Own Enc.bytes 38 wr w.heap.size (fun b => b < w.heap.size) (.slice A0 n c0) (doneTo p ws im k) ∧ Below w.heap.size w wr) (fun i _ => m - (intOf i).toNat)
  case atStart => exact ⟨0, by omega, by simp, HO.out, hd⟩
  case round =>
    clear HO
    obtain ⟨k, hk, rfl, ho, hdr⟩ := hrel
    have hsz := hdr.size
    by_cases hlt : k < m
    · have hka := g.lt hlt
      have hgr := g.old.all hdr
      obtain ⟨ad, B1, m1, d1, rfl, -, hc1, hc2, hs⟩ := hgr.entry k hka
      have HA := Lib.hid g; clear g hgr
      obtain ⟨hx0, hx1⟩ := HIN.out _ (List.getElem_mem hka)
      obtain ⟨s, hes⟩ := Int.eq_ofNat_of_zero_le hx0
      rw [hes] at hc1
      have HS := Lib.hid (hs.keep (F' := fun b => b < w.heap.size) fun b hb _ => ⟨rfl, hb.2⟩)
      have hsn : s < n := by omega
      have HE := Lib.hid hes
      clear hs hes hx0 hx1
      have hbx := below_box (Below.refl wr.heap.size wr) (Nat.le_refl _) (.cells #[.int .i64 (s : Int), .slice B1 m1 d1] 43)
      have HC2 := Lib.hid (HP.out (wr.alloc (.cells #[.int .i64 (s : Int), .slice B1 m1 d1] 43)) k (by omega) (hdr.alloc hsz _))
      have hll := doneTo_length p ws im k
      have HOB := Lib.hid (ho.all hbx)
      obtain ⟨gb, hA1, hgb, hgl⟩ := ho.blockOf (by omega)
      subst hA1
      have hbelow := hdr.alloc hsz (.cells #[.int .i64 (s : Int), .slice B1 m1 d1] 43)
      have HLL := Lib.hid (hll.trans hln)
      clear ho hll
      cases hpk : p k with
      | false =>
        rw [hpk] at HC2
        have HK : Hid (doneTo p ws im (k + 1) = doneTo p ws im k) := Lib.hid (by rw [doneTo_succ, wstep_no hpk])
        clear hpk
        go_wp2_with fail
        refine HC2.out.mono ?_
        rintro e w2 ⟨rfl, hd2⟩
        go_wp2
        go_roundw
        case rel => exact ⟨k + 1, by omega, by go_num, by rw [HK.out]; exact HOB.out.all hd2, below_then hbelow (by simp; omega) hd2⟩
        case measure => simp [intOf]; omega
      | true =>
        rw [hpk] at HC2
        have HK : Hid (doneTo p ws im (k + 1) = (doneTo p ws im k).set s ws[k].2) := Lib.hid (by rw [doneTo_succ, wstep_yes hpk hka, HE.out]; rfl)
        clear hpk
        go_wp2_with fail
        refine HC2.out.mono ?_
        rintro e w2 ⟨rfl, hd2⟩
        have hq1 : w2.cell? ⟨wr.heap.size, 0, none⟩ = some (.int .i64 (s : Int)) := (hd2.cell (p := ⟨wr.heap.size, 0, none⟩) (by simp)).trans (by simp)
        have hq2 : w2.cell? ⟨wr.heap.size, 1, none⟩ = some (.slice B1 m1 d1) := (hd2.cell (p := ⟨wr.heap.size, 1, none⟩) (by simp)).trans (by simp)
        have ho2 := HOB.out.all hd2
        obtain ⟨u, hu1, hu2, _⟩ := ho2.cell1 rfl s (by rw [HLL.out]; exact hsn)
        have HST := Lib.hid (ho2.store1 rfl s (by rw [HLL.out]; exact hsn) (u := .slice B1 m1 d1) (y := ws[k].2) ⟨_, _, _, rfl, (HS.out.all hbx).all hd2⟩)
        clear ho2
        go_wp2
        go_roundw
        case rel => exact ⟨k + 1, by omega, by go_num, by rw [HK.out]; exact HST.out, (below_then hbelow (by simp; omega) hd2).setCell hgb _⟩
        case measure => simp [intOf]; omega
    · have hkm : k = m := by omega
      subst hkm
      rw [← hlm] at ho
      have hll := (doneTo_length p ws im ws.length).trans hln
      have HSH := Lib.hid (doneTo_short (p := p) HI.out HW.out ws.length (Nat.le_refl _))
      generalize hLL : doneTo p ws im ws.length = L at ho hll HSH
      have HLE := Lib.hid hLL; clear hLL
      have hog := fun g hg => ho.blk (g := g) hg
      have HM := Lib.hid (ho.as (e' := Enc.mix 5 w.heap.size) (ys := mixL L 0) (F' := fun b => b < w.heap.size) rfl (mixL_length _ _) (fun i x y hx hy vs hv => by
        obtain ⟨_, rfl⟩ := mixL_get hy
        simpa [Enc.mix, List.getD, hx] using hv) (fun g hg hb => by have := (hog g hg).1; omega) (fun b hb => by omega))
      have HLL := Lib.hid hll
      clear ho hll hog
      go_wp2
      go_loopw [33] (fun i wr => ∃ (k : Nat) (FM : Nat → Prop), k ≤ n ∧ i = .int .i64 k ∧ Own (Enc.mix 5 w.heap.size) 38 wr w.heap.size FM (.slice A0 n c0) (mixL L k) ∧ Below w.heap.size w wr) (fun i _ => n - (intOf i).toNat)
      case atStart => exact ⟨0, _, by omega, by simp, HM.out, hdr⟩
      case round =>
        clear HM hdr
        obtain ⟨k, FM, hk, rfl, ho, hdr⟩ := hrel
        have hsz := hdr.size
        by_cases hlt : k < n
        · obtain ⟨gb, hA1, hgb, hgl⟩ := ho.blockOf (by omega)
          subst hA1
          have hka : k < L.length := by rw [HLL.out]; exact hlt
          have hkm : k < (mixL L k).length := by rw [mixL_length]; exact hka
          obtain ⟨u, hu1, hu2, hrel⟩ := ho.cell1 rfl k hkm
          have hmk : (mixL L k)[k] = (false, L[k]) := by simp [mixL, hka]
          rw [hmk] at hrel
          obtain ⟨B1, m1, d1, he, hs⟩ := (show Enc.bytes.rel wr FM [u] L[k] by simpa [Enc.mix] using hrel)
          cases he
          have hlen := HSH.out _ (List.getElem_mem hka)
          have HC3 := Lib.hid (clone_bytes hs (by have := hs.len; omega))
          have HO := Lib.hid ho
          clear hs hrel hmk hlen ho
          go_wp2_with fail
          refine HC3.out.mono ?_
          rintro e w2 ⟨v2, rfl, ho2, hd2⟩
          have ho3 := HO.out.all hd2
          have HST := Lib.hid ((ho3.weaken (F' := fun b => FM b ∨ (wr.heap.size ≤ b ∧ b < w2.heap.size)) (fun b hb => .inl hb) (fun g hg hb => by
              cases hg
              rcases hb with hb | hb
              · obtain ⟨_, _, _, hn', _⟩ := ho3; exact hn' _ rfl hb
              · exact absurd hgl (by have h1 := hb.1; exact Nat.not_lt.2 h1))
            (fun b hb => by
              rcases hb with hb | hb
              · obtain ⟨_, _, _, _, hl'⟩ := ho3; exact hl' _ hb
              · exact hb.2)).store1 rfl k hkm (u := v2) (y := (true, L[k])) (by
                refine Enc.mix_true ⟨v2, rfl, ho2.lower (Nat.zero_le _), fun g hg => ?_⟩
                have := ho2.blk hg
                exact ⟨.inr this, by have := this.1; omega⟩))
          rw [mixL_set hka] at HST
          have hcell2 := hd2.cell (p := ⟨gb, k, none⟩) hgl
          have hfro2 := hd2.frozen (p := ⟨gb, k, none⟩) hgl
          rw [hu1] at hcell2
          rw [hu2] at hfro2
          obtain ⟨A2, c2, rfl, -⟩ := ho2.form
          clear ho2 ho3
          go_wp2
          go_roundw
          case rel => exact ⟨k + 1, _, by omega, by go_num, HST.out, (below_then hdr hsz hd2).setCell hgb _⟩
          case measure => simp [intOf]; omega
        · have hkn : k = n := by omega
          subst hkn
          have hog := fun g hg => ho.blk (g := g) hg
          go_wp2
          go_ret
          rw [HLE.out]
          refine ⟨_, fun b => FM b ∧ w.heap.size ≤ b, rfl, ho.as (e' := Enc.obytes 5) rfl (mixL_length _ _).symm (fun i x y hx hy vs hv => ?_) (fun g hg hb => ?_) (fun b hb => ?_), fun b hb => hb.2, hdr⟩
          · obtain ⟨hi, rfl⟩ := mixL_get hx
            have hik : i < k := by rw [← HLL.out]; exact hi
            have hy' : L.getD i [] = y := by simp [List.getD, hy]
            simp only [Enc.mix, hik, decide_true, if_true, hy'] at hv
            exact hv
          · obtain ⟨_, _, _, hn', _⟩ := ho; exact hn' g hg hb.1
          · obtain ⟨_, _, _, _, hl'⟩ := ho; exact hl' b hb.1
end
end Go.Proofs.Ytdgcfgiedclmcaa
