/- The contracts of package frame, the first part: number, Grow and Concat at bytes. -/
import Derived.Test.YtinenekbdcbcnaaDoorFrameMath
import Derived.Test.YtinenekbdcbcnaaDoorBytes
import Derived.Test.YtinenekbdcbcnaaDoorCrcTells
import Derived.Lib.AppendZerosOnto
namespace Go.Proofs.YtinenekbdcbcnaaDoor
open Go.RowKit

theorem own_base {w : World} {base base' : Nat} {e : TypeId} {size : Nat} {v : Value} {n : Nat} {xs : List Value} (h : w.ownsRow base e size v n xs) (hb : base' ≤ base) : w.ownsRow base' e size v n xs := by
  refine ⟨h.1, ?_⟩
  rcases h.2 with h2 | ⟨g, cap, cur, hv, hg, r⟩
  · exact .inl h2
  · exact .inr ⟨g, cap, cur, hv, Nat.le_trans hb hg, r⟩
theorem own_below {w w' : World} {base : Nat} {e : TypeId} {size : Nat} {v : Value} {n : Nat} {xs : List Value} (h : w.ownsRow base e size v n xs) (hb : Below w.heap.size w w') : w'.ownsRow base e size v n xs := by
  refine ⟨h.1, ?_⟩
  rcases h.2 with h2 | ⟨g, cap, cur, hv, hg, hh, r⟩
  · exact .inl h2
  · exact .inr ⟨g, cap, cur, hv, hg, by rw [hb.block g (Array.getElem?_eq_some_iff.1 hh).1]; exact hh, r⟩

theorem step_num (R : BitVec 32) (x : BitVec 8) : bits BinOp.or IntKind.u32 ((R.toNat : Int) * 256 % 4294967296) (x.toNat : Int) = (((R <<< 8) ||| x.setWidth 32).toNat : Int) := by
  have e1 : (R.toNat : Int) * (256 : Int) % (4294967296 : Int) = ((R <<< 8).toNat : Int) := by rw [BitVec.toNat_shiftLeft, Nat.shiftLeft_eq]; omega
  have e2 : (x.toNat : Int) = ((x.setWidth 32).toNat : Int) := by rw [BitVec.toNat_setWidth, Nat.mod_eq_of_lt (by have := x.isLt; omega)]
  rw [e1, e2, u32_or_nat _ _ (R <<< 8).isLt (x.setWidth 32).isLt, BitVec.toNat_or]

set_option maxHeartbeats 400000 in
theorem number_any (P : Nat → Prop) (A : Option Addr) (n c : Nat) (bs : List (BitVec 8)) (w : World) (hb : RB w P A n bs) (hn : n ≤ 1099511627776) :
    Calls Tryd.prog 45 #[.slice A n c] w fun e w' => e = .returned (.int .u32 ((Fr.numB bs).toNat : Int)) ∧ w' = w := by
  go_enter Tryd.func45, Tryd.ntmps45
  go_wp2
  go_loopw [2, 7] (fun r i wr => ∃ k : Nat, k ≤ n ∧ i = .int .i64 k ∧ r = .int .u32 ((Fr.numB (bs.take k)).toNat : Int) ∧ wr = w) (fun _ i _ => n - (intOf i).toNat)
  case atStart => exact ⟨0, by omega, rfl, rfl, rfl⟩
  case round =>
    obtain ⟨k, hk, rfl, rfl, rfl⟩ := hrel
    obtain ⟨R, hR⟩ : ∃ R, R = Fr.numB (bs.take k) := ⟨_, rfl⟩
    rw [← hR]
    by_cases hlt : k < n
    · obtain ⟨b, off, x, rfl, _, hx, hc⟩ := hb.cell hlt
      have hs := step_num R x
      rw [hR, ← Fr.numB_snoc, ← take_succ_get bs k x hx, ← hR] at hs
      have HS := Lib.hid hs
      clear hs hx hR
      go_wp2
      go_roundw
      case rel => exact ⟨k + 1, by omega, by go_num, by rw [HS.out], trivial⟩
      case measure => simp [intOf]; omega
    · obtain rfl : k = n := by omega
      rw [List.take_of_length_le (Nat.le_of_eq hb.len)] at hR
      subst hR
      go_wp2
      go_ret
      exact ⟨rfl, rfl⟩

set_option maxHeartbeats 800000 in
theorem grow_nil (n : Nat) (w : World) (h0 : 0 < n) (hn : n ≤ 4398046511104) :
    Calls Tryd.prog 46 #[.slice none 0 0, .int .i64 (n : Int)] w fun e w' => ∃ v, e = .returned v ∧ w'.ownsRow w.heap.size 5 1 v 0 [] ∧ Below w.heap.size w w' := by
  obtain ⟨i0, hi0, hz0, hz1, hz2⟩ := info_parts infoU8
  have hrz : ∀ ty, (Builtin.append_ #[23, 3] ty #[.slice none 0 0, .int .i64 (n : Int)]).run Tryd.prog w =
      .ok (.slice (some ⟨w.heap.size, 0, none⟩) n (grownCap w n 0 5)) (w.drew.alloc (.cells (Builtin.zeroCells (Value.int .u8 0).cells n ++ Builtin.zeroCells (Value.int .u8 0).cells (grownCap w n 0 5 - n)) 5)) := fun ty => by
    have h := Lib.run_append_grow_zeros w 23 3 ty 5 i0 (.int .u8 0) .i64 .i64 Tryd.underlying23 Tryd.underlying3 hi0 hz0 none 0 0 [] (run_firstCells_none w.drew i0.size 0 0 0) n h0 (by rw [hz1]; decide) (by omega) (by omega)
      (by rw [hz2]; omega) (growslice_fits (by omega) (by rw [hz2]; omega))
    rw [Nat.zero_add] at h
    rw [h]
    simp
  have hGn : n ≤ grownCap w n 0 5 := grownCap_ge w _ _ _
  have hG63 := grownCap_le_maxLen w n 0 5 (by unfold maxLen; omega)
  obtain ⟨G, hG⟩ : ∃ G, G = grownCap w n 0 5 := ⟨_, rfl⟩
  rw [← hG] at hrz hGn hG63
  have hown : (w.drew.alloc (.cells (Builtin.zeroCells (Value.int .u8 0).cells n ++ Builtin.zeroCells (Value.int .u8 0).cells (G - n)) 5)).ownsRow w.heap.size 5 1 (.slice (some ⟨w.heap.size, 0, none⟩) 0 G) 0 [] :=
    World.ownsRow_made w.drew _ G (Nat.le_refl _) hG63 (by simp [Builtin.zeroCells, Value.cells]; omega)
  have hB : Below w.heap.size w (w.drew.alloc (.cells (Builtin.zeroCells (Value.int .u8 0).cells n ++ Builtin.zeroCells (Value.int .u8 0).cells (G - n)) 5)) := (Below.drew (Below.refl _ _)).alloc (Nat.le_refl _) _
  have HO := Lib.hid hown
  clear hG hown
  go_enter Tryd.func46, Tryd.ntmps46
  go_wp2_with (at_builtin; refine Lib.wpList_append_run _ rfl _ _ _ _ rfl _ _ rfl rfl _ _ (hrz _) ?_)
  go_wp2
  go_ret
  exact ⟨_, rfl, HO.out, hB⟩

set_option maxHeartbeats 1600000 in
theorem concat_two (p : Nat) (A1 : Option Addr) (n1 c1 : Nat) (x1 : List (BitVec 8)) (A2 : Option Addr) (n2 c2 : Nat) (x2 : List (BitVec 8)) (w : World) (hp : p < w.heap.size)
    (h1 : w.cell? ⟨p, 0, none⟩ = some (.slice A1 n1 c1)) (h2 : w.cell? ⟨p, 1, none⟩ = some (.slice A2 n2 c2)) (hb1 : RB w (· < w.heap.size) A1 n1 x1) (hb2 : RB w (· < w.heap.size) A2 n2 x2) (h0 : 0 < n1) (hn1 : n1 ≤ 1099511627000) (hn2 : n2 ≤ 1099511627000) :
    Calls Tryd.prog 44 #[.slice (some ⟨p, 0, none⟩) 2 2] w fun e w' => ∃ v, e = .returned v ∧ w'.ownsRow w.heap.size 5 1 v (n1 + n2) (bytes (x1 ++ x2)) ∧ Below w.heap.size w w' := by
  go_enter Tryd.func44, Tryd.ntmps44
  go_wp2
  go_loopw [3, 11] (fun s i wr => wr = w ∧ ((i = .int .i64 0 ∧ s = .int .i64 0) ∨ (i = .int .i64 1 ∧ s = .int .i64 n1) ∨ (i = .int .i64 2 ∧ s = .int .i64 ((n1 + n2 : Nat) : Int)))) (fun _ i _ => 2 - (intOf i).toNat)
  case atStart => exact ⟨rfl, .inl ⟨rfl, rfl⟩⟩
  case round =>
    obtain ⟨rfl, ⟨rfl, rfl⟩ | ⟨rfl, rfl⟩ | ⟨rfl, rfl⟩⟩ := hrel
    · go_wp2
      go_roundw
      case rel => exact ⟨trivial, .inr (.inl ⟨rfl, rfl⟩)⟩
      case measure => simp [intOf]
    · go_wp2
      go_roundw
      case rel => exact ⟨trivial, .inr (.inr ⟨rfl, by go_num⟩)⟩
      case measure => simp [intOf]
    · obtain ⟨w0, hw0⟩ : ∃ w0 : World, w0 = wr := ⟨_, rfl⟩
      subst hw0
      go_wp2_with fail
      refine (grow_nil (n1 + n2) w0 (by omega) (by omega)).mono ?_
      rintro e w1 ⟨v1, rfl, hown, hB⟩
      have hsz : w0.heap.size ≤ w1.heap.size := hB.size
      have d1 : w1.cell? ⟨p, 0, none⟩ = some (.slice A1 n1 c1) := (hB.cell (p := ⟨p, 0, none⟩) hp).trans h1
      have d2 : w1.cell? ⟨p, 1, none⟩ = some (.slice A2 n2 c2) := (hB.cell (p := ⟨p, 1, none⟩) hp).trans h2
      have r1 := hb1.below hB
      have r2 := hb2.below hB
      go_wp2
      go_loopw [6, 27] (fun v i w2 => Below w0.heap.size w0 w2 ∧ ((i = .int .i64 0 ∧ w2.ownsRow w0.heap.size 5 1 v 0 []) ∨ (i = .int .i64 1 ∧ w2.ownsRow w0.heap.size 5 1 v n1 (bytes x1)) ∨ (i = .int .i64 2 ∧ w2.ownsRow w0.heap.size 5 1 v (n1 + n2) (bytes (x1 ++ x2))))) (fun _ i _ => 2 - (intOf i).toNat)
      case atStart => exact ⟨hB, .inl ⟨rfl, hown⟩⟩
      case round =>
        clear hown hB hsz d1 d2 r1 r2
        obtain ⟨hBr, ⟨rfl, hown⟩ | ⟨rfl, hown⟩ | ⟨rfl, hown⟩⟩ := hrel
        · have d1 := (hBr.cell (p := ⟨p, 0, none⟩) hp).trans h1
          have r1 := hb1.below hBr
          have hsz := hBr.size
          go_wp2_with (at_builtin; (refine wpList_appN _ rfl _ _ 23 rfl w0.heap.size 5 (.int .u8 0) 1 1 Tryd.underlying23 infoU8 rfl (by decide) _ 0 _ hown rfl _ _ n1 c1 _ r1 rfl (bytes_one _) (by omega) (by omega) hsz ?_); intro v4 w4 hown4 _ hb4 _)
          rw [Nat.zero_add, List.nil_append] at hown4
          go_wp2
          go_roundw
          case rel => exact ⟨hBr.trans hb4, .inr (.inl ⟨rfl, hown4⟩)⟩
          case measure => simp [intOf]
        · have d2 := (hBr.cell (p := ⟨p, 1, none⟩) hp).trans h2
          have r2 := hb2.below hBr
          have hsz := hBr.size
          go_wp2_with (at_builtin; (refine wpList_appN _ rfl _ _ 23 rfl w0.heap.size 5 (.int .u8 0) 1 1 Tryd.underlying23 infoU8 rfl (by decide) _ n1 _ hown rfl _ _ n2 c2 _ r2 rfl (bytes_one _) (by omega) (by omega) hsz ?_); intro v4 w4 hown4 _ hb4 _)
          rw [← bytes_append] at hown4
          go_wp2
          go_roundw
          case rel => exact ⟨hBr.trans hb4, .inr (.inr ⟨rfl, hown4⟩)⟩
          case measure => simp [intOf]
        · go_wp2
          go_ret
          exact ⟨_, rfl, hown, hBr⟩
end Go.Proofs.YtinenekbdcbcnaaDoor
