/- The walk of the statement FrameHeads. -/
import Derived.Test.YtinenekbdcbcnaaDoorFrameE
namespace Go.Proofs.YtinenekbdcbcnaaDoor
open Go.RowKit

theorem own_lit (w : World) (bs : List (BitVec 8)) (n : Nat) (h : bs.length = n) (hn : n ≤ maxLen) : (w.alloc (.cells (bytes bs).toArray 5)).ownsRow w.heap.size 5 1 (.slice (some ⟨w.heap.size, 0, none⟩) n n) n (bytes bs) := by
  subst h
  refine ⟨by simp [bytes_length], .inr ⟨w.heap.size, bs.length, (bytes bs).toArray, rfl, Nat.le_refl _, heap_alloc_new w _, Nat.le_refl _, hn, by simp [bytes_length], ?_⟩⟩
  simp [bytes_length, List.take_of_length_le]
theorem i64_or_nat (a b : Nat) (ha : a < 4294967296) (hb : b < 4294967296) : bits BinOp.or IntKind.i64 (a : Int) (b : Int) = ((a ||| b : Nat) : Int) := by
  have hx : a ||| b < 2 ^ 32 := Nat.or_lt_two_pow (by omega) (by omega)
  show IntKind.i64.wrap ((BitVec.ofInt 64 (a : Int) ||| BitVec.ofInt 64 (b : Int)).toNat : Int) = _
  rw [BitVec.toNat_or, ofInt_u64 a (by omega), ofInt_u64 b (by omega), IntKind.wrap_i64]
  omega
theorem or_three (x y z : BitVec 8) : bits BinOp.or IntKind.i64 (bits BinOp.or IntKind.i64 ((x.toNat : Int) * 65536) ((y.toNat : Int) * 256)) (z.toNat : Int) = ((65536 * x.toNat + 256 * y.toNat + z.toNat : Nat) : Int) := by
  have hx := x.isLt
  have hy := y.isLt
  have hz := z.isLt
  have a1 := Nat.two_pow_add_eq_or_of_lt (i := 16) (b := 256 * y.toNat) (by omega) x.toNat
  have a2 := Nat.two_pow_add_eq_or_of_lt (i := 8) (b := z.toNat) (by omega) (256 * x.toNat + y.toNat)
  have e1 : (x.toNat : Int) * 65536 = ((2 ^ 16 * x.toNat : Nat) : Int) := by omega
  have e2 : (y.toNat : Int) * 256 = ((256 * y.toNat : Nat) : Int) := by omega
  rw [e1, e2, i64_or_nat _ _ (by omega) (by omega), ← a1, show 2 ^ 16 * x.toNat + 256 * y.toNat = 2 ^ 8 * (256 * x.toNat + y.toNat) from by omega, i64_or_nat _ _ (by omega) (by omega), ← a2]

set_option maxHeartbeats 3200000 in
set_option maxRecDepth 100000 in
theorem heads_walk (x0 x1 x2 x3 : BitVec 8) (A : Option Addr) (n c : Nat) (bs : List (BitVec 8)) (w : World) (ht : Tabs w) (hb : RB w (· < w.heap.size) A n bs) :
    Calls Tryd.prog 14 #[.int .u8 (x0.toNat : Int), .int .u8 (x1.toNat : Int), .int .u8 (x2.toNat : Int), .int .u8 (x3.toNat : Int), .slice A n c] w fun e w' => e = .returned (.bool true) ∧ Below w.heap.size w w' := by
  by_cases hbig : 4096 < n
  · have hbg : decide (4096 < (n : Int)) = true := by simp; omega
    go_enter Tryd.func14, Tryd.ntmps14
    go_wp2_with fail
    refine (shown_any w ht).mono ?_
    rintro e w1 ⟨rfl, hB⟩
    go_wp2
    go_ret
    exact ⟨rfl, hB⟩
  have hbg : decide (4096 < (n : Int)) = false := by simp; omega
  obtain ⟨b, hbEq⟩ : ∃ b, b = [x0, x1, x2, x3] ++ bs := ⟨_, rfl⟩
  have hbl : b.length = 4 + n := by rw [hbEq, List.length_append, hb.len]; rfl
  have hb0 : b.getD 0 0 = x0 := by rw [hbEq]; rfl
  have hL : Fr.lenL b = 65536 * x1.toNat + 256 * x2.toNat + x3.toNat := by rw [hbEq]; rfl
  obtain ⟨L, hLL⟩ : ∃ L, L = Fr.lenL b := ⟨_, rfl⟩
  have hor := or_three x1 x2 x3
  rw [← hL, ← hLL] at hor
  have hLt := Fr.lenL_lt b
  rw [← hLL] at hLt
  have h4' : ¬ b.length < 4 := by omega
  obtain ⟨w1, hw1⟩ : ∃ w1, w1 = w.alloc (.cells #[.int .u8 (x0.toNat : Int), .int .u8 (x1.toNat : Int), .int .u8 (x2.toNat : Int), .int .u8 (x3.toNat : Int)] 5) := ⟨_, rfl⟩
  have b1 : Below w.heap.size w w1 := by rw [hw1]; exact (Below.refl _ _).alloc (Nat.le_refl _) _
  have o1 : w1.ownsRow w.heap.size 5 1 (.slice (some ⟨w.heap.size, 0, none⟩) 4 4) 4 (bytes [x0, x1, x2, x3]) := by rw [hw1]; exact own_lit w [x0, x1, x2, x3] 4 rfl (by decide)
  have r1 := hb.below b1
  have z1 := b1.size
  have w5 : IntKind.i64.wrap ((L : Int) + 5) = (L : Int) + 5 := IntWalk.i64_in _ (by omega)
  have w9 : IntKind.i64.wrap ((L : Int) + 9) = (L : Int) + 9 := IntWalk.i64_in _ (by omega)
  have HB := Lib.hid hbEq
  have HW := Lib.hid hw1
  have HLL := Lib.hid hLL
  clear hbEq hw1 hL hLL
  have dz := byte_zero x0
  by_cases hz : x0 = 0#8
  · rw [decide_eq_true hz] at dz
    have hg := Fr.getL_kind h4' (by rw [hb0]; exact hz)
    clear hz hb0
    have HG := Lib.hid hg
    clear hg
    go_enter Tryd.func14, Tryd.ntmps14
    go_wp2_with (at_builtin; rw [← show w1 = _ from HW.out]; (refine wpList_appN _ rfl _ _ 23 rfl w.heap.size 5 (.int .u8 0) 1 1 Tryd.underlying23 infoU8 rfl (by decide) _ 4 _ o1 rfl _ _ n c _ r1 rfl (bytes_one _) (by omega) (by omega) z1 ?_); intro v2 w2 hown2 _ hb2 _)
    have hown2' : w2.ownsRow w.heap.size 5 1 v2 (4 + n) (bytes b) := by rw [HB.out, bytes_append]; exact hown2
    obtain ⟨B, cb, rfl, hcb, hcb2, _⟩ := own_form hown2'
    have rb : RB w2 (· < w2.heap.size) B (4 + n) b := (own_reads hown2').more fun _ h => h.2
    have k2 := b1.trans hb2
    clear hown2 hown2' hb2
    go_wp2_with fail
    refine (get_any _ (4 + n) cb b w2 (ht.below k2 ht.size) rb (by omega) hcb hcb2).mono ?_
    rintro e w3 ⟨v3, rfl, hown3, hB3⟩
    rw [HG.out] at hown3
    rw [HG.out]
    obtain ⟨A3, c3, rfl, _⟩ := own_form hown3
    have k3 := next_below k2 hB3
    have k4 := k3.alloc k3.size (.cells #[.int .i64 0, .slice A3 0 c3] 48)
    clear hown3 hB3 rb
    go_wp2_with fail
    refine (shown_any _ (ht.below k4 ht.size)).mono ?_
    rintro e w5 ⟨rfl, hB5⟩
    have k5 := next_below k4 hB5
    clear hB5
    go_wp2
    go_ret
    exact ⟨rfl, k5⟩
  rw [decide_eq_false hz] at dz
  have hzb : ¬ b.getD 0 0 = 0#8 := by rw [hb0]; exact hz
  by_cases hl : 65536 < L
  · have dl : decide (65536 < (L : Int)) = true := by simp; omega
    have hg := Fr.getL_long h4' hzb (by rw [← HLL.out]; exact hl)
    clear hz hb0 hzb
    have HG := Lib.hid hg
    clear hg
    go_enter Tryd.func14, Tryd.ntmps14
    go_wp2_with (at_builtin; rw [← show w1 = _ from HW.out]; (refine wpList_appN _ rfl _ _ 23 rfl w.heap.size 5 (.int .u8 0) 1 1 Tryd.underlying23 infoU8 rfl (by decide) _ 4 _ o1 rfl _ _ n c _ r1 rfl (bytes_one _) (by omega) (by omega) z1 ?_); intro v2 w2 hown2 _ hb2 _)
    have hown2' : w2.ownsRow w.heap.size 5 1 v2 (4 + n) (bytes b) := by rw [HB.out, bytes_append]; exact hown2
    obtain ⟨B, cb, rfl, hcb, hcb2, _⟩ := own_form hown2'
    have rb : RB w2 (· < w2.heap.size) B (4 + n) b := (own_reads hown2').more fun _ h => h.2
    have k2 := b1.trans hb2
    clear hown2 hown2' hb2
    go_wp2_with fail
    refine (get_any _ (4 + n) cb b w2 (ht.below k2 ht.size) rb (by omega) hcb hcb2).mono ?_
    rintro e w3 ⟨v3, rfl, hown3, hB3⟩
    rw [HG.out] at hown3
    rw [HG.out]
    obtain ⟨A3, c3, rfl, _⟩ := own_form hown3
    have k3 := next_below k2 hB3
    have k4 := k3.alloc k3.size (.cells #[.int .i64 0, .slice A3 0 c3] 48)
    clear hown3 hB3 rb
    go_wp2_with fail
    refine (shown_any _ (ht.below k4 ht.size)).mono ?_
    rintro e w5 ⟨rfl, hB5⟩
    have k5 := next_below k4 hB5
    clear hB5
    go_wp2
    go_ret
    exact ⟨rfl, k5⟩
  have dl : decide (65536 < (L : Int)) = false := by simp; omega
  have hlb : ¬ 65536 < Fr.lenL b := by rw [← HLL.out]; exact hl
  by_cases hs : n < L + 5
  · have ds : decide ((n : Int) < (L : Int) + 5) = true := by simp; omega
    have hg := Fr.getL_short2 h4' hzb hlb (by rw [hbl, ← HLL.out]; omega)
    clear hz hb0 hzb hlb
    have HG := Lib.hid hg
    clear hg
    go_enter Tryd.func14, Tryd.ntmps14
    go_wp2_with (at_builtin; rw [← show w1 = _ from HW.out]; (refine wpList_appN _ rfl _ _ 23 rfl w.heap.size 5 (.int .u8 0) 1 1 Tryd.underlying23 infoU8 rfl (by decide) _ 4 _ o1 rfl _ _ n c _ r1 rfl (bytes_one _) (by omega) (by omega) z1 ?_); intro v2 w2 hown2 _ hb2 _)
    have hown2' : w2.ownsRow w.heap.size 5 1 v2 (4 + n) (bytes b) := by rw [HB.out, bytes_append]; exact hown2
    obtain ⟨B, cb, rfl, hcb, hcb2, _⟩ := own_form hown2'
    have rb : RB w2 (· < w2.heap.size) B (4 + n) b := (own_reads hown2').more fun _ h => h.2
    have k2 := b1.trans hb2
    clear hown2 hown2' hb2
    go_wp2_with fail
    refine (get_any _ (4 + n) cb b w2 (ht.below k2 ht.size) rb (by omega) hcb hcb2).mono ?_
    rintro e w3 ⟨v3, rfl, hown3, hB3⟩
    rw [HG.out] at hown3
    rw [HG.out]
    obtain ⟨A3, c3, rfl, _⟩ := own_form hown3
    have k3 := next_below k2 hB3
    have k4 := k3.alloc k3.size (.cells #[.int .i64 0, .slice A3 0 c3] 48)
    clear hown3 hB3 rb
    go_wp2_with fail
    refine (shown_any _ (ht.below k4 ht.size)).mono ?_
    rintro e w5 ⟨rfl, hB5⟩
    have k5 := next_below k4 hB5
    clear hB5
    go_wp2
    go_ret
    exact ⟨rfl, k5⟩
  have ds : decide ((n : Int) < (L : Int) + 5) = false := by simp; omega
  have hsb : ¬ b.length < Fr.lenL b + 9 := by rw [hbl, ← HLL.out]; omega
  by_cases ht5 : Fr.be32 (CrcM.more 0#32 (b.take (Fr.lenL b + 4))) ++ [10#8] = (b.drop (Fr.lenL b + 4)).take 5
  · have hlen : ((b.drop 4).take L).length = L := by simp; omega
    have hg := Fr.getL_ok h4' hzb hlb hsb ht5
    rw [hb0, ← HLL.out] at hg
    have HLEN := Lib.hid hlen
    clear hz hb0 hzb hlb hsb ht5 hlen
    have HG := Lib.hid hg
    clear hg
    go_enter Tryd.func14, Tryd.ntmps14
    go_wp2_with (at_builtin; rw [← show w1 = _ from HW.out]; (refine wpList_appN _ rfl _ _ 23 rfl w.heap.size 5 (.int .u8 0) 1 1 Tryd.underlying23 infoU8 rfl (by decide) _ 4 _ o1 rfl _ _ n c _ r1 rfl (bytes_one _) (by omega) (by omega) z1 ?_); intro v2 w2 hown2 _ hb2 _)
    have hown2' : w2.ownsRow w.heap.size 5 1 v2 (4 + n) (bytes b) := by rw [HB.out, bytes_append]; exact hown2
    obtain ⟨B, cb, rfl, hcb, hcb2, _⟩ := own_form hown2'
    have rb : RB w2 (· < w2.heap.size) B (4 + n) b := (own_reads hown2').more fun _ h => h.2
    have k2 := b1.trans hb2
    clear hown2 hown2' hb2
    go_wp2_with fail
    refine (get_any _ (4 + n) cb b w2 (ht.below k2 ht.size) rb (by omega) hcb hcb2).mono ?_
    rintro e w3 ⟨v3, rfl, hown3, hB3⟩
    rw [HG.out] at hown3
    rw [HG.out]
    have hown3 : w3.ownsRow w2.heap.size 5 1 v3 ((b.drop 4).take L).length (bytes ((b.drop 4).take L)) := hown3
    rw [HLEN.out] at hown3
    obtain ⟨A3, c3, rfl, _⟩ := own_form hown3
    have k3 := next_below k2 hB3
    have k4 := k3.alloc k3.size (.cells #[.int .i64 (x0.toNat : Int), .slice A3 L c3] 48)
    clear hown3 hB3 rb
    go_wp2_with fail
    refine (shown_any _ (ht.below k4 ht.size)).mono ?_
    rintro e w5 ⟨rfl, hB5⟩
    have k5 := next_below k4 hB5
    clear hB5
    go_wp2
    go_ret
    exact ⟨rfl, k5⟩
  · have hg := Fr.getL_sum h4' hzb hlb hsb ht5
    clear hz hb0 hzb hlb hsb ht5
    have HG := Lib.hid hg
    clear hg
    go_enter Tryd.func14, Tryd.ntmps14
    go_wp2_with (at_builtin; rw [← show w1 = _ from HW.out]; (refine wpList_appN _ rfl _ _ 23 rfl w.heap.size 5 (.int .u8 0) 1 1 Tryd.underlying23 infoU8 rfl (by decide) _ 4 _ o1 rfl _ _ n c _ r1 rfl (bytes_one _) (by omega) (by omega) z1 ?_); intro v2 w2 hown2 _ hb2 _)
    have hown2' : w2.ownsRow w.heap.size 5 1 v2 (4 + n) (bytes b) := by rw [HB.out, bytes_append]; exact hown2
    obtain ⟨B, cb, rfl, hcb, hcb2, _⟩ := own_form hown2'
    have rb : RB w2 (· < w2.heap.size) B (4 + n) b := (own_reads hown2').more fun _ h => h.2
    have k2 := b1.trans hb2
    clear hown2 hown2' hb2
    go_wp2_with fail
    refine (get_any _ (4 + n) cb b w2 (ht.below k2 ht.size) rb (by omega) hcb hcb2).mono ?_
    rintro e w3 ⟨v3, rfl, hown3, hB3⟩
    rw [HG.out] at hown3
    rw [HG.out]
    obtain ⟨A3, c3, rfl, _⟩ := own_form hown3
    have k3 := next_below k2 hB3
    have k4 := k3.alloc k3.size (.cells #[.int .i64 0, .slice A3 0 c3] 48)
    clear hown3 hB3 rb
    go_wp2_with fail
    refine (shown_any _ (ht.below k4 ht.size)).mono ?_
    rintro e w5 ⟨rfl, hB5⟩
    have k5 := next_below k4 hB5
    clear hB5
    go_wp2
    go_ret
    exact ⟨rfl, k5⟩
end Go.Proofs.YtinenekbdcbcnaaDoor
