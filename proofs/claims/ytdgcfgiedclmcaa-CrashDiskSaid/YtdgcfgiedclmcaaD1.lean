/- Contracts: crash.all and what it tells. -/
import Derived.OwnWalkIn
import Derived.TacticsInMore
import Derived.LoopNIn
import Derived.LoopIn
import Derived.Test.YtdgcfgiedclmcaaR
import Derived.Test.YtdgcfgiedclmcaaC6
import Derived.Test.YtdgcfgiedclmcaaT
namespace Go.Proofs.Ytdgcfgiedclmcaa
open Go.RowKit
attribute [local go_sem] Oper.semAt_some

theorem i64_and_one (n : Int) : bits .and .i64 n 1 = n % 2 := by
  have h1 : (BitVec.ofInt 64 1).toNat = 2 ^ 1 - 1 := by decide
  have key : (BitVec.ofInt 64 n &&& BitVec.ofInt 64 1).toNat = (n % ((2 ^ 64 : Nat) : Int)).toNat % 2 ^ 1 := by
    rw [BitVec.toNat_and, BitVec.toNat_ofInt, h1, Nat.and_two_pow_sub_one_eq_mod]
  show IntKind.i64.wrap ((BitVec.ofInt 64 n &&& BitVec.ofInt 64 1).toNat : Nat) = n % 2
  rw [key, IntKind.wrap_i64]
  omega
theorem testBit_int (k i : Nat) : (bits BinOp.and .i64 ((k : Int) / 2 ^ i) 1 == 1) = k.testBit i := by
  have h : (k : Int) / 2 ^ i = ((k / 2 ^ i : Nat) : Int) := by simp
  rw [i64_and_one, h, Nat.testBit_eq_decide_div_mod_eq]
  by_cases h1 : k / 2 ^ i % 2 = 1
  · have : ((k / 2 ^ i : Nat) : Int) % 2 = 1 := by omega
    rw [this]; simp [h1]
  · have : ((k / 2 ^ i : Nat) : Int) % 2 = 0 := by omega
    rw [this]; simp [h1]

section
variable {w : World} {F G H : Nat → Prop} {A B D : Option Addr} {n c m d : Nat}
set_option maxHeartbeats 400000 in
theorem bit_pred {b k N : Nat} (hN : N ≤ 64) (hc : w.cell? ⟨b, 0, none⟩ = some (.int .i64 (k : Int))) : PredI w N 104 #[.pointer (some ⟨b, 0, none⟩)] (fun i => k.testBit i) := by
  refine ⟨enters_of Try.func104 (by kernel_rfl) rfl, fun W i hi hb => ?_⟩
  have hc' := (hb.cell (p := ⟨b, 0, none⟩) (World.block_lt_of_cell? w _ hc)).trans hc
  clear hc hb
  show Calls Try.prog _ #[_, _] _ _
  go_enter Try.func104, Try.ntmps104
  go_wp2
  go_ret
  exact ⟨ret_bool (testBit_int k i), .refl _ _⟩

/-- the image that is left of the k-th choice of writes -/
def imgN (ws : List Entry) (im : List (List Int)) (k : Nat) : List (List Int) := doneTo (fun i => k.testBit i) ws im ws.length

/-- a slice's value -/
structure SlV where
  a : Option Addr
  n : Nat
  c : Nat
def SlV.val (x : SlV) : Value := .slice x.a x.n x.c

set_option maxRecDepth 100000 in
set_option maxHeartbeats 1000000 in
theorem all_seq {im : List (List Int)} {ws : List Entry} {bi bw n₀ bx : Nat} (hbi : w.cell? ⟨bi, 0, none⟩ = some (.slice A n c)) (hbw : w.cell? ⟨bw, 0, none⟩ = some (.slice B m d))
    (hbi0 : bi < n₀) (hbw0 : bw < n₀) (hbi1 : bi ≠ bx) (hbw1 : bw ≠ bx) (hn0 : n₀ ≤ w.heap.size)
    (h : Sl Enc.bytes w (fun b => b < n₀ ∧ b ≠ bx) A n c im) (g : Sl Enc.entry w (fun b => b < n₀ ∧ b ≠ bx) B m d ws)
    (hin : ∀ x ∈ ws, 0 ≤ x.1 ∧ x.1 < n) (hn : n ≤ 4096) (hm : m ≤ 10) (hi : ∀ x ∈ im, x.length ≤ 4096) (hw : ∀ x ∈ ws, x.2.length ≤ 4096) :
    SeqMem Fence.wide 2 Try.prog 103 #[.pointer (some ⟨bw, 0, none⟩), .pointer (some ⟨bi, 0, none⟩)] SlV.val n₀ bx
      (fun pre x W => pre.length ≤ 1024 ∧ Sl Enc.bytes W (OfT W [38, 5]) x.a x.n x.c (imgN ws im pre.length)) (fun xs => xs.length = 2 ^ m) w := by
  intro l J W hW hJ hY h0
  have hci := (hW.cell (p := ⟨bi, 0, none⟩) (by simp; omega)).trans hbi
  have hcw := (hW.cell (p := ⟨bw, 0, none⟩) (by simp; omega)).trans hbw
  replace h := h.all hW
  replace g := g.all hW
  have hnW : n₀ ≤ W.heap.size := by have := hW.size; omega
  have hlw := g.len
  clear hbi hbw hW hn0
  have HD := Lib.hid fun (W1 : World) (hb : Bx n₀ bx W W1) (k b : Nat) (hc : W1.cell? ⟨b, 0, none⟩ = some (.int .i64 (k : Int))) =>
    done_any (h.keep (.bx hb fun _ hb => hb)) (g.keep (.bx hb fun _ hb => hb)) (bit_pred (by omega) hc) hin hn hi hw
  clear h g hin hi hw hlw
  have HY := Lib.hid hY; clear hY
  have HJ := Lib.hid hJ; clear hJ
  have HJ0 := Lib.hid h0; clear h0
  refine callsIn_of_wp Try.func103 rfl trivial ?_ rfl
  simp only [Try.ntmps103, List.size_toArray, List.length_cons, List.length_nil, Nat.reduceAdd, Nat.reduceSub, Array.replicate_succ, Array.replicate_zero, List.push_toArray, List.append_toArray, List.nil_append, List.cons_append]
  obtain ⟨N, hN⟩ : ∃ N : Nat, N = 2 ^ m := ⟨_, rfl⟩
  have hNb : N ≤ 1024 := by
    rw [hN]
    exact Nat.le_trans (Nat.pow_le_pow_right (by omega) hm) (by decide)
  have hsh : wrap64 ((2 : Int) ^ m) = (N : Int) := by
    have e : ((2 : Int) ^ m) = (N : Int) := by rw [hN]; simp
    rw [e]
    unfold wrap64
    omega
  have HN := Lib.hid hN; clear hN
  gi_wp2
  gi_loopw [8] (fun i wr => ∃ (k : Nat) (pre : List SlV), k ≤ N ∧ i = .int .i64 k ∧ pre.length = k ∧ J pre wr ∧ Bx n₀ bx W wr) (fun i _ => N - (intOf i).toNat)
  case atStart => exact ⟨0, [], by omega, rfl, rfl, HJ0.out, .refl _ _ _⟩
  case round =>
    obtain ⟨k, pre, hk, rfl, hpre, hJp, hb⟩ := hrel
    have HP := Lib.hid hpre
    have HJP := Lib.hid hJp
    clear hpre hJp
    have hsz := hb.size
    have hci' := (hb.cell (p := ⟨bi, 0, none⟩) hbi0 hbi1).trans hci
    have hcw' := (hb.cell (p := ⟨bw, 0, none⟩) hbw0 hbw1).trans hcw
    have hbil : bi < wr.heap.size := by omega
    have hbwl : bw < wr.heap.size := by omega
    by_cases hlt : k < N
    · have hb1 : Bx n₀ bx W (wr.alloc (.cells #[.int .i64 (k : Int)] 3)) := hb.trans (.of_below ((Below.refl _ wr).alloc (Nat.le_refl _) _) (by omega))
      have HC := Lib.hid (HD.out (wr.alloc (.cells #[.int .i64 (k : Int)] 3)) hb1 k wr.heap.size (by simp))
      gi_wp2_with (refine ⟨trivial, ?_⟩; gi_at_call 63; refine (callsIn_wide.2 HC.out).mono ?_; rintro e w2 ⟨v, F', rfl, ho, hF, hd2⟩; obtain ⟨A2, c2, rfl, hs2⟩ := ho.slT; have HS2 := Lib.hid hs2; clear hs2 ho hF; have hb2 := hb1.trans (Bx.of_below (x := bx) hd2 (by simp; omega)); have hsz2 := hd2.size; obtain ⟨fn, tmps, assign, body, hy, hR⟩ := HY.out pre ⟨A2, (doneTo (fun i => k.testBit i) ws im ws.length).length, c2⟩ w2 (HJ.out _ _ _ (HJ.out _ _ _ HJP.out ((Below.refl _ wr).alloc (Nat.le_refl _) (.cells #[.int .i64 (k : Int)] 3))) hd2) ⟨by rw [HP.out]; omega, by rw [HP.out]; exact HS2.out⟩)
      dsimp only [SlV.val] at hy
      have HHY := Lib.hid hb2
      gi_wp2
      rw [hy]
      gi_wp2
      refine hR.mono ?_
      rintro e w3 ⟨rfl, hJ3, hb3⟩
      gi_wp2
      go_roundw
      case rel => exact ⟨k + 1, _, by omega, by go_num, by rw [List.length_append, HP.out]; rfl, hJ3, HHY.out.trans hb3⟩
      case measure => simp [intOf]; omega
    · have hkN : k = N := by omega
      gi_wp2
      go_end0
      exact ⟨⟨_, rfl⟩, pre, by rw [HP.out, hkN, HN.out], HJP.out⟩
end
end Go.Proofs.Ytdgcfgiedclmcaa
