/- Plain laws of frames: their bytes, what bytes begin with. No Go in sight. -/
import Derived.Test.YtinenekbdcbcnaaDoorCrcMath
namespace Go.Proofs.YtinenekbdcbcnaaDoor.Fr
open CrcM
abbrev By := BitVec 8
/-- A number as bytes, the highest first. -/
def be32 (s : BitVec 32) : List By := [(s >>> 24).setWidth 8, (s >>> 16).setWidth 8, (s >>> 8).setWidth 8, s.setWidth 8]
/-- Bytes as a number, the highest first. -/
def numB (l : List By) : BitVec 32 := l.foldl (fun n x => (n <<< 8) ||| x.setWidth 32) 0#32
theorem numB_snoc (l : List By) (x : By) : numB (l ++ [x]) = (numB l <<< 8) ||| x.setWidth 32 := by unfold numB; rw [List.foldl_append]; rfl
theorem bits_or (a : BitVec 32) (x : By) : ((a <<< 8) ||| x.setWidth 32).setWidth 8 = x := by
  apply BitVec.eq_of_getLsbD_eq
  intro i hi
  simp only [BitVec.getLsbD_setWidth, BitVec.getLsbD_or, BitVec.getLsbD_shiftLeft]
  simp [hi, show i < 32 from by omega]
theorem shr_or (a : BitVec 32) (x : By) (h : ∀ i, 24 ≤ i → a.getLsbD i = false) : ((a <<< 8) ||| x.setWidth 32) >>> 8 = a := by
  apply BitVec.eq_of_getLsbD_eq
  intro i hi
  simp only [BitVec.getLsbD_ushiftRight, BitVec.getLsbD_or, BitVec.getLsbD_shiftLeft, BitVec.getLsbD_setWidth]
  by_cases h24 : i < 24
  · have : x.getLsbD (8 + i) = false := BitVec.getLsbD_of_ge _ _ (by omega)
    simp [this, show 8 + i < 32 from by omega]
  · rw [h i (by omega)]
    simp [show ¬ 8 + i < 32 from by omega]
theorem numB_be32 (s : BitVec 32) : numB (be32 s) = s := by
  apply BitVec.eq_of_getLsbD_eq
  intro i hi
  simp only [numB, be32, List.foldl_cons, List.foldl_nil, BitVec.getLsbD_or, BitVec.getLsbD_shiftLeft, BitVec.getLsbD_setWidth, BitVec.getLsbD_ushiftRight]
  have h4 : i < 8 ∨ (8 ≤ i ∧ i < 16) ∨ (16 ≤ i ∧ i < 24) ∨ (24 ≤ i ∧ i < 32) := by omega
  rcases h4 with h | ⟨h, h'⟩ | ⟨h, h'⟩ | ⟨h, h'⟩
  · simp [h, hi]
  · simp [show ¬ i < 8 from by omega, show i - 8 < 8 from by omega, show i - 8 < 32 from by omega, show 8 + (i - 8) = i from by omega, hi]
  · simp [show ¬ i < 8 from by omega, show ¬ i - 8 < 8 from by omega, show i - 8 - 8 < 8 from by omega, show i - 8 < 32 from by omega, show i - 8 - 8 < 32 from by omega, show 16 + (i - 8 - 8) = i from by omega, hi]
  · simp [show ¬ i < 8 from by omega, show ¬ i - 8 < 8 from by omega, show ¬ i - 8 - 8 < 8 from by omega, show i - 8 - 8 - 8 < 8 from by omega, show i - 8 < 32 from by omega, show i - 8 - 8 < 32 from by omega, show i - 8 - 8 - 8 < 32 from by omega, show 24 + (i - 8 - 8 - 8) = i from by omega, hi]
theorem be32_numB (a b c d : By) : be32 (numB [a, b, c, d]) = [a, b, c, d] := by
  unfold be32
  have e : ∀ (i : Nat), i < 32 → (numB [a, b, c, d]).getLsbD i = if i < 8 then d.getLsbD i else if i < 16 then c.getLsbD (i - 8) else if i < 24 then b.getLsbD (i - 16) else a.getLsbD (i - 24) := by
    intro i hi
    simp only [numB, List.foldl_cons, List.foldl_nil, BitVec.getLsbD_or, BitVec.getLsbD_shiftLeft, BitVec.getLsbD_setWidth]
    have z : ∀ (x : By) (j : Nat), 8 ≤ j → x.getLsbD j = false := fun x j hj => BitVec.getLsbD_of_ge _ _ hj
    have h4 : i < 8 ∨ (8 ≤ i ∧ i < 16) ∨ (16 ≤ i ∧ i < 24) ∨ (24 ≤ i ∧ i < 32) := by omega
    rcases h4 with h | ⟨h, h'⟩ | ⟨h, h'⟩ | ⟨h, h'⟩
    · simp [h, hi]
    · simp [show ¬ i < 8 from by omega, h', show i - 8 < 8 from by omega, show i - 8 < 32 from by omega, hi, z d i h]
    · simp [show ¬ i < 8 from by omega, show ¬ i < 16 from by omega, h', show ¬ i - 8 < 8 from by omega, show i - 8 - 8 < 8 from by omega, show i - 8 < 32 from by omega, show i - 8 - 8 < 32 from by omega, hi, z d i (by omega), z c (i - 8) (by omega), show i - 8 - 8 = i - 16 from by omega, show i - 16 < 8 from by omega, show i - 16 < 32 from by omega]
    · simp [show ¬ i < 8 from by omega, show ¬ i < 16 from by omega, show ¬ i < 24 from by omega, show ¬ i - 8 < 8 from by omega, show ¬ i - 8 - 8 < 8 from by omega, show i - 8 - 8 - 8 < 8 from by omega, show i - 8 < 32 from by omega, show i - 8 - 8 < 32 from by omega, show i - 8 - 8 - 8 < 32 from by omega, hi, z d i (by omega), z c (i - 8) (by omega), z b (i - 8 - 8) (by omega), show i - 8 - 8 - 8 = i - 24 from by omega, show i - 24 < 8 from by omega, show i - 24 < 32 from by omega]
  have k : ∀ (s : Nat) (x : By), s ≤ 24 → (∀ i, i < 8 → (numB [a, b, c, d]).getLsbD (s + i) = x.getLsbD i) → ((numB [a, b, c, d]) >>> s).setWidth 8 = x := by
    intro s x hs h
    apply BitVec.eq_of_getLsbD_eq
    intro i hi
    rw [BitVec.getLsbD_setWidth, BitVec.getLsbD_ushiftRight, h i hi]
    simp [hi]
  have k0 : (numB [a, b, c, d]).setWidth 8 = d := by
    apply BitVec.eq_of_getLsbD_eq
    intro i hi
    rw [BitVec.getLsbD_setWidth, e i (by omega)]
    simp [hi]
  rw [k0, k 24 a (by omega), k 16 b (by omega), k 8 c (by omega)]
  · intro i hi; rw [e _ (by omega)]; simp [show ¬ 8 + i < 8 from by omega, show 8 + i < 16 from by omega]
  · intro i hi; rw [e _ (by omega)]; simp [show ¬ 16 + i < 8 from by omega, show ¬ 16 + i < 16 from by omega, show 16 + i < 24 from by omega]
  · intro i hi; rw [e _ (by omega)]; simp [show ¬ 24 + i < 8 from by omega, show ¬ 24 + i < 16 from by omega, show ¬ 24 + i < 24 from by omega]

def b8 (n : Nat) : By := BitVec.ofNat 8 n
/-- The four bytes ahead of a body. -/
def headL (kind n : Nat) : List By := [b8 kind, b8 (n / 65536), b8 (n / 256), b8 n]
/-- A frame's bytes. -/
def bytesOf (kind : Nat) (body : List By) : List By :=
  headL kind body.length ++ body ++ (be32 (more 0#32 (headL kind body.length ++ body)) ++ [10#8])
theorem bytesOf_length (kind : Nat) (body : List By) : (bytesOf kind body).length = body.length + 9 := by simp [bytesOf, headL, be32]
/-- What the three bytes behind the first say. -/
def lenL (b : List By) : Nat := 65536 * (b.getD 1 0).toNat + 256 * (b.getD 2 0).toNat + (b.getD 3 0).toNat
/-- What bytes begin with: kind, body, how many bytes, the error. -/
def getL (b : List By) : Nat × List By × Nat × Int :=
  if b.length < 4 then (0, [], 0, 4)
  else if b.getD 0 0 = 0#8 then (0, [], 0, 2)
  else if 65536 < lenL b then (0, [], 0, 5)
  else if b.length < lenL b + 9 then (0, [], 0, 4)
  else if be32 (more 0#32 (b.take (lenL b + 4))) ++ [10#8] = (b.drop (lenL b + 4)).take 5 then ((b.getD 0 0).toNat, (b.drop 4).take (lenL b), lenL b + 9, 0)
  else (0, [], 0, 6)
end Go.Proofs.YtinenekbdcbcnaaDoor.Fr
