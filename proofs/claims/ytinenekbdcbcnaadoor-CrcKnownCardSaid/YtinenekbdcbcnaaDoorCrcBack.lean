/- The walk of the statement CrcBack. -/
import Derived.Test.YtinenekbdcbcnaaDoorCrcSum
namespace Go.Proofs.YtinenekbdcbcnaaDoor
open Go.RowKit

theorem more_x (s : BitVec 32) (P : Nat → Prop) (A : Option Addr) (n c : Nat) (bs : List (BitVec 8)) (w : World) (hb : RB w P A n bs) (ht : Tabs w) (hn : n ≤ 9223372036854775807) :
    Calls Tryd.prog 20 #[.int .u32 (s.toNat : Int), .slice A n c] w fun e w' => ∃ x, e = .returned (.int .u32 (x.toNat : Int)) ∧ x = CrcM.more s bs ∧ ∃ q, w' = w.drewN q :=
  (more_any s P A n c bs w hb ht hn).mono fun _ _ ⟨h, q⟩ => ⟨_, h, rfl, q⟩

theorem back_facts {s t x y : BitVec 32} {xs ys : List (BitVec 8)} {N : Nat} (hx : x = CrcM.more s (xs.take N)) (hy : y = CrcM.more t (xs.take N)) (h1 : N ≤ xs.length) (h2 : N ≤ ys.length) :
    ∃ (β : Bool) (d : BitVec 32), ((s.toNat : Int) == (t.toNat : Int)) = β ∧ ((x.toNat : Int) == (y.toNat : Int)) = β ∧ bits BinOp.xor IntKind.u32 (x.toNat : Int) (y.toNat : Int) = (d.toNat : Int) ∧
      bits BinOp.xor IntKind.u32 ((CrcM.more s (ys.take N)).toNat : Int) ((CrcM.more t (ys.take N)).toNat : Int) = (d.toNat : Int) := by
  have e : ∀ a b : BitVec 32, ((a.toNat : Int) == (b.toNat : Int)) = decide (a = b) := fun a b => by
    rw [Bool.eq_iff_iff, beq_iff_eq, decide_eq_true_eq]
    constructor
    · intro h; exact BitVec.eq_of_toNat_eq (by omega)
    · rintro rfl; rfl
  refine ⟨decide (s = t), x ^^^ y, e _ _, ?_, xor32 _ _, ?_⟩
  · rw [e, hx, hy]
    exact decide_eq_decide.2 (CrcM.back_law s t (xs.take N)).symm
  · rw [xor32, hx, hy, CrcM.back_diff s t (xs.take N) (ys.take N) (by simp; omega)]

set_option maxHeartbeats 400000 in
theorem back_walk (s t : BitVec 32) (A1 A2 : Option Addr) (n1 c1 n2 c2 : Nat) (xs ys : List (BitVec 8)) (w : World) (ht : Tabs w)
    (ha : RB w (· < w.heap.size) A1 n1 xs) (hb : RB w (· < w.heap.size) A2 n2 ys) (hl1 : n1 ≤ c1) (hl2 : n2 ≤ c2) (hm1 : c1 ≤ 9223372036854775807) (hm2 : c2 ≤ 9223372036854775807) :
    Calls Tryd.prog 6 #[.int .u32 (s.toNat : Int), .int .u32 (t.toNat : Int), .slice A1 n1 c1, .slice A2 n2 c2] w fun e w' => e = .returned (.bool true) ∧ Below w.heap.size w w' := by
  go_enter Tryd.func6, Tryd.ntmps6
  go_wp2_with fail
  all_goals
    refine (more_x s _ A1 _ c1 (xs.take _) w (ha.take ?_) ht ?_).mono ?_
    · omega
    · omega
    rintro e w1 ⟨x, rfl, hx, q1, rfl⟩
    have HX := Lib.hid hx
    clear hx
    go_wp2_with fail
    refine (more_x t _ A1 _ c1 (xs.take _) _ ((ha.take ?_).keep (w' := w.drewN q1) (fun _ _ => rfl)) (ht.drewN q1) ?_).mono ?_
    · omega
    · omega
    rintro e w2 ⟨y, rfl, hy, q2, rfl⟩
    obtain ⟨β, d, e1, e2, e3, e4⟩ := back_facts (ys := ys) HX.out hy (by rw [ha.len]; omega) (by rw [hb.len]; omega)
    clear HX hy
    obtain ⟨ι, W, hne, hW0, hWB, hWall⟩ := family w.heap.size (w.drewN (q1 + q2))
    have hWb : ∀ n, Below w.heap.size w (W n) := fun n => (below_drewN (Below.refl _ _) _).trans (hWB n)
    have HWB := Lib.hid hWB
    have HWb := Lib.hid hWb
    have HWall := Lib.hid hWall
    clear hWB hWb hWall
    go_wp2_with fail
    refine wp_region_family (by kernel_rfl) (by kernel_rfl) hW0 ?_
    repeat (go_big_quiet_step ((first
      | (go_at_call 16; exact calls_family (known_any _ (ht.below (HWb.out _) ht.size)) HWB.out (Nat.le_refl _) HWall.out)
      | (go_at_call 20; refine calls_family ((more_any _ _ A2 _ c2 (ys.take _) _ ((hb.take ?_).below (HWb.out _)) (ht.below (HWb.out _) ht.size) ?_).mono fun _ _ h => ⟨h.1, by obtain ⟨q, h2⟩ := h.2; rw [h2]; exact below_drewN (Below.refl _ _) q⟩) HWB.out (Nat.le_refl _) HWall.out <;> omega))))
    refine wpQuiet_nil ?_
    rintro _ ⟨nq, rfl⟩
    go_wp2
    go_ret
    exact ⟨rfl, HWb.out nq⟩
end Go.Proofs.YtinenekbdcbcnaaDoor
