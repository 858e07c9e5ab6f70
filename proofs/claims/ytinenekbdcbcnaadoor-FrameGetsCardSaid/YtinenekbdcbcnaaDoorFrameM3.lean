/- Plain laws of frames: there and back. -/
import Derived.Test.YtinenekbdcbcnaaDoorFrameM2
namespace Go.Proofs.YtinenekbdcbcnaaDoor.Fr
open CrcM
theorem b8_nat (x : Nat) : (b8 x).toNat = x % 256 := by unfold b8; rw [BitVec.toNat_ofNat]
theorem b8_of (x : By) : b8 x.toNat = x := by apply BitVec.eq_of_toNat_eq; rw [b8_nat, Nat.mod_eq_of_lt x.isLt]
theorem headL_length (k n : Nat) : (headL k n).length = 4 := rfl
theorem be32_length (s : BitVec 32) : (be32 s).length = 4 := rfl
/-- The bytes of a frame that may be, with whatever behind them, begin with it. -/
theorem getL_bytesOf {k : Nat} {body rest : List By} (h1 : 1 ≤ k) (h2 : k ≤ 255) (hn : body.length ≤ 65536) : getL (bytesOf k body ++ rest) = (k, body, body.length + 9, 0) := by
  obtain ⟨T, hT⟩ : ∃ T, T = be32 (more 0#32 (headL k body.length ++ body)) ++ [10#8] := ⟨_, rfl⟩
  have hTl : T.length = 5 := by rw [hT]; rfl
  have hb : bytesOf k body ++ rest = headL k body.length ++ body ++ T ++ rest := by rw [hT]; rfl
  obtain ⟨b, hbe⟩ : ∃ b, b = headL k body.length ++ body ++ T ++ rest := ⟨_, rfl⟩
  have hbl : b.length = body.length + 9 + rest.length := by rw [hbe]; simp [headL_length, hTl]; omega
  have h0 : b.getD 0 0 = b8 k := by rw [hbe]; rfl
  have hL : lenL b = body.length := by
    have : lenL b = 65536 * (b8 (body.length / 65536)).toNat + 256 * (b8 (body.length / 256)).toNat + (b8 body.length).toNat := by rw [hbe]; rfl
    rw [this, b8_nat, b8_nat, b8_nat]; omega
  have ht : b.take (lenL b + 4) = headL k body.length ++ body := by
    rw [hL, hbe, List.append_assoc, List.take_left' (by simp [headL_length]; omega)]
  have hd : (b.drop (lenL b + 4)).take 5 = T := by
    rw [hL, hbe, List.append_assoc, List.drop_left' (by simp [headL_length]; omega), List.take_left' hTl]
  have hbd : (b.drop 4).take (lenL b) = body := by
    rw [hL, hbe, List.append_assoc, List.append_assoc, List.drop_left' (headL_length _ _), List.take_left' rfl]
  rw [hb, ← hbe]
  rw [getL_ok (by omega) (by rw [h0]; intro e; have := congrArg BitVec.toNat e; rw [b8_nat] at this; simp at this; omega) (by omega) (by omega) (by rw [ht, hd, hT]), h0, hbd, hL]
  rw [b8_nat, Nat.mod_eq_of_lt (by omega)]
/-- What comes out of any bytes has just those. -/
theorem bytesOf_getL {b : List By} (h4 : 4 ≤ b.length) (hL : lenL b ≤ 65536) (hL9 : lenL b + 9 ≤ b.length) (ht : be32 (more 0#32 (b.take (lenL b + 4))) ++ [10#8] = (b.drop (lenL b + 4)).take 5) :
    bytesOf (b.getD 0 0).toNat ((b.drop 4).take (lenL b)) = b.take (lenL b + 9) := by
  obtain ⟨x0, x1, x2, x3, r, rfl⟩ := split4 h4
  obtain ⟨L, hLL⟩ : ∃ L, L = lenL (x0 :: x1 :: x2 :: x3 :: r) := ⟨_, rfl⟩
  have e : L = 65536 * x1.toNat + 256 * x2.toNat + x3.toNat := hLL
  rw [← hLL] at ht hL hL9 ⊢
  have i1 := x1.isLt
  have i2 := x2.isLt
  have i3 := x3.isLt
  have hlr : ((x0 :: x1 :: x2 :: x3 :: r).drop 4).take L = r.take L := rfl
  have hrl : (r.take L).length = L := by simp at hL9; simp; omega
  have hh : headL x0.toNat L = [x0, x1, x2, x3] := by
    unfold headL
    have a1 : b8 (L / 65536) = x1 := by apply BitVec.eq_of_toNat_eq; rw [b8_nat]; omega
    have a2 : b8 (L / 256) = x2 := by apply BitVec.eq_of_toNat_eq; rw [b8_nat]; omega
    have a3 : b8 L = x3 := by apply BitVec.eq_of_toNat_eq; rw [b8_nat]; omega
    rw [b8_of, a1, a2, a3]
  have htk : (x0 :: x1 :: x2 :: x3 :: r).take (L + 4) = [x0, x1, x2, x3] ++ r.take L := by
    rw [Nat.add_comm]; simp [List.take_succ_cons, Nat.add_comm]
  rw [hlr]
  show bytesOf x0.toNat (r.take L) = _
  unfold bytesOf
  rw [hrl, hh, ← htk, ht, ← List.take_add]
/-- A frame of which one of the last five bytes is another one. -/
theorem getL_bad {k i : Nat} {body : List By} {y : By} (h1 : 1 ≤ k) (h2 : k ≤ 255) (hn : body.length ≤ 65536) (hi : i < 5) (hy : (bytesOf k body)[body.length + 4 + i]? ≠ some y) :
    getL ((bytesOf k body).set (body.length + 4 + i) y) = (0, [], 0, 6) := by
  obtain ⟨T, hT⟩ : ∃ T, T = be32 (more 0#32 (headL k body.length ++ body)) ++ [10#8] := ⟨_, rfl⟩
  have hTl : T.length = 5 := by rw [hT]; rfl
  have hb : bytesOf k body = headL k body.length ++ body ++ T := by rw [hT]; rfl
  rw [hb] at hy
  rw [hb]
  have hhl : (headL k body.length ++ body).length = body.length + 4 := by simp [headL_length]; omega
  have hset : (headL k body.length ++ body ++ T).set (body.length + 4 + i) y = headL k body.length ++ body ++ T.set i y := by
    rw [List.set_append_right _ _ (by omega), hhl, Nat.add_sub_cancel_left]
  rw [List.getElem?_append_right (by omega), hhl, Nat.add_sub_cancel_left] at hy
  obtain ⟨U, hU⟩ : ∃ U, U = T.set i y := ⟨_, rfl⟩
  have hUl : U.length = 5 := by rw [hU]; simp [hTl]
  have hUT : U ≠ T := by
    intro e
    apply hy
    rw [← e, hU, List.getElem?_set_self (by omega)]
  rw [hset, ← hU]
  obtain ⟨b, hbe⟩ : ∃ b, b = headL k body.length ++ body ++ U := ⟨_, rfl⟩
  have hbl : b.length = body.length + 9 := by rw [hbe, List.length_append, hhl, hUl]
  have h0 : b.getD 0 0 = b8 k := by rw [hbe]; rfl
  have hL : lenL b = body.length := by
    have : lenL b = 65536 * (b8 (body.length / 65536)).toNat + 256 * (b8 (body.length / 256)).toNat + (b8 body.length).toNat := by rw [hbe]; rfl
    rw [this, b8_nat, b8_nat, b8_nat]; omega
  have ht : b.take (lenL b + 4) = headL k body.length ++ body := by rw [hL, hbe, List.take_left' hhl]
  have hd : (b.drop (lenL b + 4)).take 5 = U := by rw [hL, hbe, List.drop_left' hhl, List.take_of_length_le (by omega)]
  rw [← hbe]
  exact getL_sum (by omega) (by rw [h0]; intro e; have := congrArg BitVec.toNat e; rw [b8_nat] at this; simp at this; omega) (by omega) (by omega) (by rw [ht, hd, ← hT]; exact fun e => hUT e.symm)
end Go.Proofs.YtinenekbdcbcnaaDoor.Fr
