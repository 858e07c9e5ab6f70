/- The contracts of the document's answer for layer 2: bits, halves, More, Sum. -/
import Derived.Test.YtinenekbdcbcnaaDoorCrcSum
import Derived.Test.YtinenekbdcbcnaaDoorBytes
namespace Go.Proofs.YtinenekbdcbcnaaDoor
open Go.RowKit

theorem infoBool : (Tryd.prog.info? 4).map (fun i => (i.zero, i.size, i.bytes)) = some (some (.bool false), 1, 1) := by kernel_rfl
def bools (l : List Bool) : List Value := l.map Value.bool
theorem bools_append (a b : List Bool) : bools (a ++ b) = bools a ++ bools b := by simp [bools]

theorem shr1 (a : BitVec 32) : ((a >>> 1).toNat : Int) = (a.toNat : Int) / 2 := by rw [BitVec.toNat_ushiftRight, Nat.shiftRight_eq_div_pow]; rfl
theorem low_bit (a : BitVec 32) : ((a.toNat : Int) % 2 == 1) = a.getLsbD 0 := by
  rw [BitVec.getLsbD, Nat.testBit_zero, Bool.eq_iff_iff, beq_iff_eq, decide_eq_true_eq]; omega

theorem shr_bit (x : BitVec 8) (j : Nat) : (((x.toNat : Int) / 2 ^ j).tmod 2 == 1) = x.getLsbD j := by
  have h1 : ((x.toNat : Int) / 2 ^ j) = ((x.toNat / 2 ^ j : Nat) : Int) := by simp
  rw [h1, Int.tmod_eq_emod_of_nonneg (Int.natCast_nonneg _), BitVec.getLsbD, Nat.testBit_eq_decide_div_mod_eq, Bool.eq_iff_iff, beq_iff_eq, decide_eq_true_eq]
  omega
theorem bitsOf_take (x : BitVec 8) (j : Nat) (h : j < 8) : (CrcM.bitsOf x).take (j + 1) = (CrcM.bitsOf x).take j ++ [x.getLsbD j] :=
  take_succ_get _ _ _ (by simp [CrcM.bitsOf, List.getElem?_range, h])
theorem allBits_snoc (b : List (BitVec 8)) (x : BitVec 8) : CrcM.allBits (b ++ [x]) = CrcM.allBits b ++ CrcM.bitsOf x := by simp [CrcM.allBits]

theorem halves_any (r : BitVec 32) (b : Bool) (w : World) : Calls Tryd.prog 41 #[.int .u32 (r.toNat : Int), .bool b] w fun e w' => e = .returned (.int .u32 ((CrcM.bitStep r b).toNat : Int)) ∧ w' = w := by
  obtain ⟨l, hl⟩ : ∃ l, l = r.getLsbD 0 := ⟨_, rfl⟩
  have h1 : ((r.toNat : Int) % 2 == 1) = l := by rw [hl]; exact low_bit r
  obtain ⟨y, hy⟩ : ∃ y, y = CrcM.bitStep r b := ⟨_, rfl⟩
  rw [← hy]
  have hr := r.isLt
  have hb0 : 0 ≤ (r.toNat : Int) % 2 := by omega
  cases hc : (l != b)
  · have e : (r.toNat : Int) / 2 = (y.toNat : Int) := by
      rw [hy, CrcM.bitStep, ← hl, hc, ← shr1]; rfl
    have e' : (!l == b) = false := by revert hc; cases l <;> cases b <;> decide
    clear hy hl
    go_enter Tryd.func41, Tryd.ntmps41
    go_wp2
    go_ret
    exact ⟨rfl, rfl⟩
  · have e : bits BinOp.xor IntKind.u32 ((r.toNat : Int) / 2) 3988292384 = (y.toNat : Int) := by
      rw [hy, CrcM.bitStep, ← hl, hc, ← shr1]; exact xor32 (r >>> 1) CrcM.poly
    have e' : (!l == b) = true := by revert hc; cases l <;> cases b <;> decide
    clear hy hl
    go_enter Tryd.func41, Tryd.ntmps41
    go_wp2
    go_ret
    exact ⟨rfl, rfl⟩

set_option maxHeartbeats 1000000 in
theorem bits_any (P : Nat → Prop) (A : Option Addr) (n c : Nat) (bs : List (BitVec 8)) (w : World) (hb : RB w P A n bs) (hP : ∀ i, P i → i < w.heap.size) (hn : n ≤ 1099511627776) :
    Calls Tryd.prog 40 #[.slice A n c] w fun e w' => ∃ v, e = .returned v ∧ w'.ownsRow w.heap.size 4 1 v (8 * n) (bools (CrcM.allBits bs)) ∧ Below w.heap.size w w' := by
  go_enter Tryd.func40, Tryd.ntmps40
  go_wp2
  go_loopw [3, 4] (fun v i wr => ∃ k : Nat, k ≤ n ∧ i = .int .i64 k ∧ wr.ownsRow w.heap.size 4 1 v (8 * k) (bools (CrcM.allBits (bs.take k))) ∧ Below w.heap.size w wr) (fun _ i _ => n - (intOf i).toNat)
  case atStart => exact ⟨0, by omega, rfl, World.ownsRow_nil _ _ _ _, Below.refl _ _⟩
  case round =>
    obtain ⟨k, hk, rfl, hown, hB⟩ := hrel
    obtain ⟨wo, rfl⟩ : ∃ wo : World, wo = wr := ⟨_, rfl⟩
    by_cases hlt : k < n
    · obtain ⟨b, off, x, rfl, hPb, hx, hc⟩ := hb.cell hlt
      have HX := Lib.hid hx
      clear hx
      go_wp2
      go_loopw [3, 5] (fun v i wr => ∃ j : Nat, j ≤ 8 ∧ i = .int .i64 j ∧ wr.ownsRow w.heap.size 4 1 v (8 * k + j) (bools (CrcM.allBits (bs.take k) ++ (CrcM.bitsOf x).take j)) ∧ Below w.heap.size w wr) (fun _ i _ => 8 - (intOf i).toNat)
      case atStart => exact ⟨0, by omega, rfl, by rw [List.take_zero, List.append_nil]; exact hown, hB⟩
      case round =>
        clear hown hB
        obtain ⟨j, hj, rfl, hown, hB⟩ := hrel
        by_cases hjt : j < 8
        · have hcr : wr.cell? ⟨b, off + k, none⟩ = some (.int .u8 (x.toNat : Int)) := (hB.cell (p := ⟨b, off + k, none⟩) (hP b hPb)).trans hc
          obtain ⟨l, hl⟩ : ∃ l, l = x.getLsbD j := ⟨_, rfl⟩
          have hsh : (((x.toNat : Int) / 2 ^ j).tmod 2 == 1) = l := by rw [hl]; exact shr_bit x j
          have HL := Lib.hid hl
          clear hl
          go_wp2_with (at_builtin; refine wpList_app1 wr #[.bool l] rfl _ _ 63 rfl w.heap.size 4 (.bool false) 1 1 Tryd.underlying63 infoBool rfl (by decide) _ (8 * k + j) _ hown rfl rfl rfl (one1 _ rfl) (by omega) (by omega) hB.size ?_; intro g cap w3 hown3 _ hb3 _ _)
          have R : w3.ownsRow w.heap.size 4 1 (.slice (some ⟨g, 0, none⟩) (8 * k + j + 1) cap) (8 * k + (j + 1)) (bools (CrcM.allBits (bs.take k) ++ (CrcM.bitsOf x).take (j + 1))) := by
            rw [bitsOf_take x j hjt, ← List.append_assoc, bools_append, ← HL.out]; exact hown3
          clear hown3
          have hB3 := hB.trans hb3
          clear hB hb3 hown hsh
          go_wp2
          go_roundw
          case rel => exact ⟨j + 1, by omega, by go_num, R, hB3⟩
          case measure => simp [intOf]; omega
        · obtain rfl : j = 8 := by omega
          have R : wr.ownsRow w.heap.size 4 1 u3 (8 * (k + 1)) (bools (CrcM.allBits (bs.take (k + 1)))) := by
            rw [take_succ_get bs k x HX.out, allBits_snoc]
            have e8 : (CrcM.bitsOf x).take 8 = CrcM.bitsOf x := List.take_of_length_le (by simp [CrcM.bitsOf])
            rw [e8] at hown
            exact hown
          clear hown
          go_wp2
          go_roundw
          case rel => exact ⟨k + 1, by omega, by go_num, R, hB⟩
          case measure => simp [intOf]; omega
    · obtain rfl : k = n := by omega
      have e : bs.take k = bs := List.take_of_length_le (Nat.le_of_eq hb.len)
      rw [e] at hown
      clear e
      go_wp2
      go_ret
      exact ⟨_, rfl, hown, hB⟩

theorem xorAll (s : BitVec 32) : bits BinOp.xor IntKind.u32 (s.toNat : Int) 4294967295 = ((~~~s).toNat : Int) := by
  rw [show (4294967295 : Int) = ((BitVec.allOnes 32).toNat : Int) from by decide, xor32, BitVec.xor_allOnes]

set_option maxHeartbeats 400000 in
theorem refMore_any (s : BitVec 32) (P : Nat → Prop) (A : Option Addr) (n c : Nat) (bs : List (BitVec 8)) (w : World) (hb : RB w P A n bs) (hP : ∀ i, P i → i < w.heap.size) (hn : n ≤ 1099511627776) :
    Calls Tryd.prog 21 #[.int .u32 (s.toNat : Int), .slice A n c] w fun e w' => e = .returned (.int .u32 ((CrcM.more s bs).toNat : Int)) ∧ Below w.heap.size w w' := by
  obtain ⟨t, hT⟩ : ∃ t, t = ~~~s := ⟨_, rfl⟩
  have h0 : bits BinOp.xor IntKind.u32 (s.toNat : Int) 4294967295 = (t.toNat : Int) := by rw [hT]; exact xorAll s
  have HT := Lib.hid hT
  clear hT
  go_enter Tryd.func21, Tryd.ntmps21
  go_wp2_with fail
  clear h0
  refine (bits_any P A n c bs w hb hP hn).mono ?_
  rintro e w1 ⟨v, rfl, hown, hB⟩
  obtain ⟨A1, c1, rfl, hc1, hc2, _⟩ := own_form hown
  have hr := own_reads hown
  clear hown
  have hlen : (CrcM.allBits bs).length = 8 * n := by rw [CrcM.allBits_length, hb.len]
  have HLen := Lib.hid hlen
  clear hlen
  go_wp2
  go_loopw [5, 7] (fun r i wr => ∃ k : Nat, k ≤ 8 * n ∧ i = .int .i64 k ∧ r = .int .u32 ((((CrcM.allBits bs).take k).foldl CrcM.bitStep t).toNat : Int) ∧ wr = w1) (fun _ i _ => 8 * n - (intOf i).toNat)
  case atStart => exact ⟨0, by omega, rfl, rfl, rfl⟩
  case round =>
    obtain ⟨k, hk, rfl, rfl, rfl⟩ := hrel
    obtain ⟨R, hR⟩ : ∃ R, R = ((CrcM.allBits bs).take k).foldl CrcM.bitStep t := ⟨_, rfl⟩
    rw [← hR]
    by_cases hlt : k < 8 * n
    · obtain ⟨b, off, rfl, _⟩ := hr.at_ (by omega)
      obtain ⟨β, hβ⟩ : ∃ β, (CrcM.allBits bs)[k]? = some β := ⟨_, List.getElem?_eq_getElem (by rw [HLen.out]; exact hlt)⟩
      have hc : wr.cell? ⟨b, off + k, none⟩ = some (.bool β) := hr.cell rfl (by rw [bools, List.getElem?_map, hβ]; rfl)
      have hstep : CrcM.bitStep R β = ((CrcM.allBits bs).take (k + 1)).foldl CrcM.bitStep t := by
        rw [take_succ_get _ k β hβ, List.foldl_append, ← hR]; rfl
      have HS := Lib.hid hstep
      clear hβ hR hstep
      go_wp2_with fail
      refine (halves_any R β wr).mono ?_
      rintro e w2 ⟨rfl, rfl⟩
      go_wp2
      go_roundw
      case rel => exact ⟨k + 1, by omega, by go_num, by rw [HS.out], trivial⟩
      case measure => simp [intOf]; omega
    · obtain rfl : k = 8 * n := by omega
      obtain ⟨z, hz⟩ : ∃ z, z = ~~~R := ⟨_, rfl⟩
      have h0 : bits BinOp.xor IntKind.u32 (R.toNat : Int) 4294967295 = (z.toNat : Int) := by rw [hz]; exact xorAll R
      have hfin : z = CrcM.more s bs := by
        rw [hz, hR, List.take_of_length_le (Nat.le_of_eq HLen.out), CrcM.bits_all, HT.out]; rfl
      have HF := Lib.hid hfin
      clear hz hfin hR
      go_wp2
      go_ret
      exact ⟨congrArg (fun v : BitVec 32 => Ending.returned (.int .u32 (v.toNat : Int))) HF.out, hB⟩

theorem refSum_any (P : Nat → Prop) (A : Option Addr) (n c : Nat) (bs : List (BitVec 8)) (w : World) (hb : RB w P A n bs) (hP : ∀ i, P i → i < w.heap.size) (hn : n ≤ 1099511627776) :
    Calls Tryd.prog 19 #[.slice A n c] w fun e w' => e = .returned (.int .u32 ((CrcM.more 0#32 bs).toNat : Int)) ∧ Below w.heap.size w w' := by
  go_enter Tryd.func19, Tryd.ntmps19
  go_wp2_with fail
  refine (refMore_any 0#32 P A n c bs w hb hP hn).mono ?_
  rintro e w' ⟨rfl, hB⟩
  go_wp2
  go_ret
  exact ⟨rfl, hB⟩
end Go.Proofs.YtinenekbdcbcnaaDoor
