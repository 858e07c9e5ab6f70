/- More plain laws of frames. -/
import Derived.Test.YtinenekbdcbcnaaDoorFrameMath
namespace Go.Proofs.YtinenekbdcbcnaaDoor.Fr
open CrcM
theorem numB3 (x y z : By) : (numB [x, y, z]).toNat = 65536 * x.toNat + 256 * y.toNat + z.toNat := by
  have hx := x.isLt
  have hy := y.isLt
  have hz := z.isLt
  have step : ∀ (a : BitVec 32) (b : By), a.toNat < 65536 → ((a <<< 8) ||| b.setWidth 32).toNat = a.toNat * 256 + b.toNat := by
    intro a b ha
    have hb := b.isLt
    rw [BitVec.toNat_or, BitVec.toNat_shiftLeft, BitVec.toNat_setWidth, Nat.shiftLeft_eq]
    rw [Nat.mod_eq_of_lt (show a.toNat * 2 ^ 8 < 2 ^ 32 by omega), Nat.mod_eq_of_lt (show b.toNat < 2 ^ 32 by omega)]
    have := Nat.two_pow_add_eq_or_of_lt (i := 8) (b := b.toNat) (by omega) a.toNat
    rw [Nat.mul_comm (2 ^ 8)] at this
    rw [← this]
  have e0 : (numB [x]).toNat = x.toNat := by
    show (((0#32) <<< 8) ||| x.setWidth 32).toNat = _
    rw [step _ _ (by decide)]; simp
  have e1 : (numB [x, y]).toNat = x.toNat * 256 + y.toNat := by
    show (((numB [x]) <<< 8) ||| y.setWidth 32).toNat = _
    rw [step _ _ (by rw [e0]; omega), e0]
  show (((numB [x, y]) <<< 8) ||| z.setWidth 32).toNat = _
  rw [step _ _ (by rw [e1]; omega), e1]
  omega
theorem be32_eq (s : BitVec 32) (a b c d : By) : be32 s = [a, b, c, d] ↔ s = numB [a, b, c, d] :=
  ⟨fun h => by rw [← h, numB_be32], fun h => by rw [h, be32_numB]⟩
theorem split4 {b : List By} (h : 4 ≤ b.length) : ∃ x0 x1 x2 x3 r, b = x0 :: x1 :: x2 :: x3 :: r := by
  match b, h with
  | x0 :: x1 :: x2 :: x3 :: r, _ => exact ⟨x0, x1, x2, x3, r, rfl⟩
theorem split5 {b : List By} (h : b.length = 5) : ∃ t0 t1 t2 t3 t4, b = [t0, t1, t2, t3, t4] := by
  match b, h with
  | [t0, t1, t2, t3, t4], _ => exact ⟨t0, t1, t2, t3, t4, rfl⟩
theorem lenL_num {b : List By} (h : 4 ≤ b.length) : (numB ((b.drop 1).take 3)).toNat = lenL b := by
  obtain ⟨x0, x1, x2, x3, r, rfl⟩ := split4 h
  exact numB3 x1 x2 x3
theorem lenL_lt (b : List By) : lenL b < 16777216 := by
  unfold lenL
  have := (b.getD 1 0).isLt
  have := (b.getD 2 0).isLt
  have := (b.getD 3 0).isLt
  omega
/-- What is wrong with a frame with which bytes begin. -/
def errL (b : List By) : Int := (getL b).2.2.2
theorem getL_short {b : List By} (h : b.length < 4) : getL b = (0, [], 0, 4) := by unfold getL; rw [if_pos h]
theorem getL_kind {b : List By} (h : ¬ b.length < 4) (h0 : b.getD 0 0 = 0#8) : getL b = (0, [], 0, 2) := by unfold getL; rw [if_neg h, if_pos h0]
theorem getL_long {b : List By} (h : ¬ b.length < 4) (h0 : ¬ b.getD 0 0 = 0#8) (h1 : 65536 < lenL b) : getL b = (0, [], 0, 5) := by unfold getL; rw [if_neg h, if_neg h0, if_pos h1]
theorem getL_short2 {b : List By} (h : ¬ b.length < 4) (h0 : ¬ b.getD 0 0 = 0#8) (h1 : ¬ 65536 < lenL b) (h2 : b.length < lenL b + 9) : getL b = (0, [], 0, 4) := by unfold getL; rw [if_neg h, if_neg h0, if_neg h1, if_pos h2]
theorem getL_ok {b : List By} (h : ¬ b.length < 4) (h0 : ¬ b.getD 0 0 = 0#8) (h1 : ¬ 65536 < lenL b) (h2 : ¬ b.length < lenL b + 9) (h3 : be32 (more 0#32 (b.take (lenL b + 4))) ++ [10#8] = (b.drop (lenL b + 4)).take 5) :
    getL b = ((b.getD 0 0).toNat, (b.drop 4).take (lenL b), lenL b + 9, 0) := by unfold getL; rw [if_neg h, if_neg h0, if_neg h1, if_neg h2, if_pos h3]
theorem getL_sum {b : List By} (h : ¬ b.length < 4) (h0 : ¬ b.getD 0 0 = 0#8) (h1 : ¬ 65536 < lenL b) (h2 : ¬ b.length < lenL b + 9) (h3 : ¬ be32 (more 0#32 (b.take (lenL b + 4))) ++ [10#8] = (b.drop (lenL b + 4)).take 5) :
    getL b = (0, [], 0, 6) := by unfold getL; rw [if_neg h, if_neg h0, if_neg h1, if_neg h2, if_neg h3]
theorem tail_eq (s : BitVec 32) (t0 t1 t2 t3 t4 : By) : be32 s ++ [10#8] = [t0, t1, t2, t3, t4] ↔ s = numB [t0, t1, t2, t3] ∧ t4 = 10#8 := by
  rw [← be32_eq]
  simp only [be32, List.cons_append, List.nil_append, List.cons.injEq, and_true]
  constructor
  · rintro ⟨h1, h2, h3, h4, h5⟩; exact ⟨⟨h1, h2, h3, h4⟩, h5.symm⟩
  · rintro ⟨⟨h1, h2, h3, h4⟩, h5⟩; exact ⟨h1, h2, h3, h4, h5.symm⟩
theorem getL_cases (b : List By) : (errL b ≠ 0 ∧ getL b = (0, [], 0, errL b)) ∨
    (errL b = 0 ∧ 4 ≤ b.length ∧ b.getD 0 0 ≠ 0#8 ∧ lenL b ≤ 65536 ∧ lenL b + 9 ≤ b.length ∧ be32 (more 0#32 (b.take (lenL b + 4))) ++ [10#8] = (b.drop (lenL b + 4)).take 5 ∧ getL b = ((b.getD 0 0).toNat, (b.drop 4).take (lenL b), lenL b + 9, 0)) := by
  unfold errL
  by_cases h : b.length < 4
  · rw [getL_short h]; exact .inl ⟨by decide, rfl⟩
  by_cases h0 : b.getD 0 0 = 0#8
  · rw [getL_kind h h0]; exact .inl ⟨by decide, rfl⟩
  by_cases h1 : 65536 < lenL b
  · rw [getL_long h h0 h1]; exact .inl ⟨by decide, rfl⟩
  by_cases h2 : b.length < lenL b + 9
  · rw [getL_short2 h h0 h1 h2]; exact .inl ⟨by decide, rfl⟩
  by_cases h3 : be32 (more 0#32 (b.take (lenL b + 4))) ++ [10#8] = (b.drop (lenL b + 4)).take 5
  · rw [getL_ok h h0 h1 h2 h3]; exact .inr ⟨rfl, by omega, h0, by omega, by omega, h3, rfl⟩
  · rw [getL_sum h h0 h1 h2 h3]; exact .inl ⟨(by decide : (6 : Int) ≠ 0), rfl⟩
end Go.Proofs.YtinenekbdcbcnaaDoor.Fr
