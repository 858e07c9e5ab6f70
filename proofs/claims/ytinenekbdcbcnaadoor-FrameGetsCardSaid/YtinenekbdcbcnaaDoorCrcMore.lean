/- The contract of crc.More: it hands back the plain law's 'more'. -/
import Derived.Test.YtinenekbdcbcnaaDoorWords
import Derived.Test.YtinenekbdcbcnaaDoorCrcMath
import Derived.Test.YtinenekbdcbcnaaDoorRows
import Derived.Deep.QuietTactic
import Derived.BigQuiet
import Derived.Lib.Hide
import Derived.WalkSpells
import Derived.WalkLawsBesides
namespace Go.Proofs.YtinenekbdcbcnaaDoor
open Go.RowKit

/-- The tables lie in the blocks of the two package-level variables. -/
def Tabs (w : World) : Prop := ∀ i, i < 16 → w.cell? ⟨0, i, none⟩ = some (.int .u32 ((CrcM.lower.getD i 0).toNat : Int)) ∧ w.cell? ⟨1, i, none⟩ = some (.int .u32 ((CrcM.upper.getD i 0).toNat : Int))

theorem xor32 (a b : BitVec 32) : bits BinOp.xor IntKind.u32 (a.toNat : Int) (b.toNat : Int) = ((a ^^^ b).toNat : Int) := by
  rw [u32_xor_nat _ _ a.isLt b.isLt, BitVec.toNat_xor]
theorem xor8 (a b : BitVec 8) : bits BinOp.xor IntKind.u8 (a.toNat : Int) (b.toNat : Int) = ((a ^^^ b).toNat : Int) := by
  rw [u8_xor_nat _ _ a.isLt b.isLt, BitVec.toNat_xor]
theorem low8 (a : BitVec 32) : ((a.setWidth 8).toNat : Int) = (a.toNat : Int) % 256 := by rw [BitVec.toNat_setWidth]; rfl
theorem shr8 (a : BitVec 32) : ((a >>> 8).toNat : Int) = (a.toNat : Int) / 256 := by rw [BitVec.toNat_ushiftRight, Nat.shiftRight_eq_div_pow]; rfl
theorem not32 (s : BitVec 32) : bits BinOp.xor IntKind.u32 IntKind.u32.max (s.toNat : Int) = ((~~~s).toNat : Int) := by
  have hm : IntKind.u32.max = (((BitVec.allOnes 32).toNat : Nat) : Int) := by decide
  rw [hm, xor32, BitVec.allOnes_xor]

set_option maxHeartbeats 400000 in
theorem more_any (s : BitVec 32) (P : Nat → Prop) (A : Option Addr) (n c : Nat) (bs : List (BitVec 8)) (w : World) (hb : RB w P A n bs) (ht : Tabs w) (hn : n ≤ 9223372036854775807) :
    Calls Tryd.prog 20 #[.int .u32 (s.toNat : Int), .slice A n c] w fun e w' => e = .returned (.int .u32 ((CrcM.more s bs).toNat : Int)) ∧ ∃ q, w' = w.drewN q := by
  obtain ⟨t, hT⟩ : ∃ t, t = ~~~s := ⟨_, rfl⟩
  have h0 : bits BinOp.xor IntKind.u32 IntKind.u32.max (s.toNat : Int) = (t.toNat : Int) := by rw [hT]; exact not32 s
  have HT := Lib.hid hT
  clear hT
  go_enter Tryd.func20, Tryd.ntmps20
  go_wp2
  clear h0
  go_loopw [5, 12] (fun r i wr => ∃ k q : Nat, k ≤ n ∧ i = .int .i64 k ∧ r = .int .u32 ((CrcM.fold t (bs.take k)).toNat : Int) ∧ wr = w.drewN q) (fun _ i _ => n - (intOf i).toNat)
  case atStart => exact ⟨0, 0, by omega, rfl, rfl, rfl⟩
  case round =>
    obtain ⟨k, q, hk, rfl, rfl, rfl⟩ := hrel
    obtain ⟨R, hR⟩ : ∃ R, R = CrcM.fold t (bs.take k) := ⟨_, rfl⟩
    rw [← hR]
    by_cases hlt : k < n
    · obtain ⟨b, off, x, rfl, _, hx, hc⟩ := hb.cell hlt
      obtain ⟨y, hy⟩ : ∃ y, y = R.setWidth 8 ^^^ x := ⟨_, rfl⟩
      have e1 : bits BinOp.xor IntKind.u8 (x.toNat : Int) ((R.toNat : Int) % 256) = (y.toNat : Int) := by rw [← low8, xor8, hy, BitVec.xor_comm]
      obtain ⟨i1, hi1⟩ : ∃ i1, i1 = y.toNat % 16 := ⟨_, rfl⟩
      obtain ⟨i2, hi2⟩ : ∃ i2, i2 = y.toNat / 16 := ⟨_, rfl⟩
      obtain ⟨l1, hl1⟩ : ∃ l1, l1 = CrcM.lower.getD i1 0 := ⟨_, rfl⟩
      obtain ⟨l2, hl2⟩ : ∃ l2, l2 = CrcM.upper.getD i2 0 := ⟨_, rfl⟩
      obtain ⟨m1, hm1⟩ : ∃ m1, m1 = (R >>> 8) ^^^ l1 := ⟨_, rfl⟩
      obtain ⟨m2, hm2⟩ : ∃ m2, m2 = m1 ^^^ l2 := ⟨_, rfl⟩
      have hy8 := y.isLt
      have hb1 : i1 < 16 := by omega
      have hb2 : i2 < 16 := by omega
      have e2 : bits BinOp.and IntKind.u8 (y.toNat : Int) 15 = (i1 : Int) := by rw [hi1]; exact (u8_and_nat y.toNat 15 y.isLt (by decide)).trans (by rw [nat_mask4])
      have e3 : (y.toNat : Int) / 16 = (i2 : Int) := by omega
      have c1 : w.cell? ⟨0, i1, none⟩ = some (.int .u32 (l1.toNat : Int)) := by rw [hl1]; exact (ht i1 hb1).1
      have c2 : w.cell? ⟨1, i2, none⟩ = some (.int .u32 (l2.toNat : Int)) := by rw [hl2]; exact (ht i2 hb2).2
      have e4 : bits BinOp.xor IntKind.u32 ((R.toNat : Int) / 256) (l1.toNat : Int) = (m1.toNat : Int) := by rw [← shr8, xor32, hm1]
      have e5 : bits BinOp.xor IntKind.u32 (m1.toNat : Int) (l2.toNat : Int) = (m2.toNat : Int) := by rw [xor32, hm2]
      have hstep : m2 = CrcM.fold t (bs.take (k + 1)) := by
        rw [take_succ_get bs k x hx, CrcM.fold_snoc, ← hR, CrcM.tab_step, ← hy, ← hi1, ← hi2, hm2, hm1, ← hl1, ← hl2]
      have HS := Lib.hid hstep
      clear hR hy hi1 hi2 hl1 hl2 hm1 hm2 hstep hx
      go_wp2
      go_quiet (fail)
      go_wp2
      go_roundw
      case rel => exact ⟨k + 1, _, by omega, by go_num, by rw [← HS.out], rfl⟩
      case measure => simp [intOf]; omega
    · have hkn : k = n := by omega
      obtain ⟨z, hz⟩ : ∃ z, z = ~~~R := ⟨_, rfl⟩
      have h0 : bits BinOp.xor IntKind.u32 IntKind.u32.max (R.toNat : Int) = (z.toNat : Int) := by rw [hz]; exact not32 R
      have hfin : z = CrcM.more s bs := by
        rw [hz, hR, hkn, List.take_of_length_le (Nat.le_of_eq hb.len), HT.out]; rfl
      have HF := Lib.hid hfin
      clear hz hfin hR hkn
      go_wp2
      go_ret
      exact ⟨congrArg (fun v : BitVec 32 => Ending.returned (.int .u32 (v.toNat : Int))) HF.out, _, rfl⟩
end Go.Proofs.YtinenekbdcbcnaaDoor
