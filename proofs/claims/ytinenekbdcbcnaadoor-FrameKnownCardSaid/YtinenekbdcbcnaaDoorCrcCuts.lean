/- The walk of the statement CrcCuts. -/
import Derived.Test.YtinenekbdcbcnaaDoorCrcTells
namespace Go.Proofs.YtinenekbdcbcnaaDoor
open Go.RowKit

theorem more_v (s : BitVec 32) (P : Nat → Prop) (A : Option Addr) (n c : Nat) (bs : List (BitVec 8)) (w : World) (hb : RB w P A n bs) (ht : Tabs w) (hn : n ≤ 9223372036854775807) :
    Calls Tryd.prog 20 #[.int .u32 (s.toNat : Int), .slice A n c] w fun e w' => ∃ x, e = .returned (.int .u32 (x.toNat : Int)) ∧ x = CrcM.more s bs ∧ ∃ q, w' = w.drewN q :=
  (more_any s P A n c bs w hb ht hn).mono fun _ _ ⟨h, q⟩ => ⟨_, h, rfl, q⟩

theorem sum_x (P : Nat → Prop) (A : Option Addr) (n c : Nat) (bs : List (BitVec 8)) (w : World) (hb : RB w P A n bs) (ht : Tabs w) (hn : n ≤ 9223372036854775807) :
    Calls Tryd.prog 18 #[.slice A n c] w fun e w' => ∃ x, e = .returned (.int .u32 (x.toNat : Int)) ∧ x = CrcM.more 0#32 bs ∧ ∃ q, w' = w.drewN q :=
  (sum_any P A n c bs w hb ht hn).mono fun _ _ ⟨h, q⟩ => ⟨_, h, rfl, q⟩
theorem more_is2 (s d : BitVec 32) (P : Nat → Prop) (A : Option Addr) (n c : Nat) (bs : List (BitVec 8)) (w : World) (hb : RB w P A n bs) (ht : Tabs w) (hn : n ≤ 9223372036854775807) (hd : d = CrcM.more s bs) :
    Calls Tryd.prog 20 #[.int .u32 (s.toNat : Int), .slice A n c] w fun e w' => e = .returned (.int .u32 (d.toNat : Int)) ∧ ∃ q, w' = w.drewN q := by
  rw [hd]; exact more_any s P A n c bs w hb ht hn
theorem sum_is2 (d : BitVec 32) (P : Nat → Prop) (A : Option Addr) (n c : Nat) (bs : List (BitVec 8)) (w : World) (hb : RB w P A n bs) (ht : Tabs w) (hn : n ≤ 9223372036854775807) (hd : d = CrcM.more 0#32 bs) :
    Calls Tryd.prog 18 #[.slice A n c] w fun e w' => e = .returned (.int .u32 (d.toNat : Int)) ∧ ∃ q, w' = w.drewN q := by
  rw [hd]; exact sum_any P A n c bs w hb ht hn

set_option maxHeartbeats 1000000 in
theorem cuts_walk (s : BitVec 32) (A : Option Addr) (n c : Nat) (bs : List (BitVec 8)) (B : Option Addr) (m d : Nat) (zs : List Int) (w : World) (ht : Tabs w)
    (hb : RB w (· < w.heap.size) A n bs) (hl : n ≤ c) (hm : c ≤ 9223372036854775807) (hz : RI w (· < w.heap.size) B m zs) (hl2 : m ≤ d) (hm2 : d ≤ 9223372036854775807) :
    Calls Tryd.prog 4 #[.int .u32 (s.toNat : Int), .slice A n c, .slice B m d] w fun e w' => e = .returned (.bool true) ∧ Below w.heap.size w w' := by
  by_cases hbig : 4096 < n ∨ 100 < m
  · have hd : decide (4096 < (n : Int)) = true ∨ decide (4096 < (n : Int)) = false ∧ (100 : Int) < m := by
      by_cases h : 4096 < n
      · exact .inl (by simp; omega)
      · exact .inr ⟨by simp; omega, by omega⟩
    rcases hd with hd | ⟨hd, hd2⟩
    all_goals
      clear hbig
      go_enter Tryd.func4, Tryd.ntmps4
      go_wp2_with fail
      refine (known_any w ht).mono ?_
      rintro e w1 ⟨rfl, hB⟩
      go_wp2
      go_ret
      exact ⟨rfl, hB⟩
  · have h1 : n ≤ 4096 := by omega
    have h2 : m ≤ 100 := by omega
    clear hbig
    go_enter Tryd.func4, Tryd.ntmps4
    go_wp2_with fail
    go_loopw [7, 8, 9] (fun l r i wr => ∃ (k t q : Nat) (A' : Option Addr) (c' : Nat), k ≤ m ∧ t ≤ n ∧ i = .int .i64 k ∧ l = .slice A' (n - t) c' ∧ n - t ≤ c' ∧ c' ≤ 9223372036854775807 ∧ RB w (· < w.heap.size) A' (n - t) (bs.drop t) ∧
        r = .int .u32 ((CrcM.more s (bs.take t)).toNat : Int) ∧ wr = w.drewN q) (fun _ _ i _ => m - (intOf i).toNat)
    case atStart => exact ⟨0, 0, 0, A, c, by omega, by omega, rfl, rfl, hl, hm, hb, by rw [List.take_zero, CrcM.more_nil], rfl⟩
    case round =>
      obtain ⟨k, t, q, A', c', hk, ht1, rfl, rfl, hc1, hc2, hr, rfl, rfl⟩ := hrel
      obtain ⟨u, hu⟩ : ∃ u, u = CrcM.more s (bs.take t) := ⟨_, rfl⟩
      rw [← hu]
      have HU := Lib.hid hu
      clear hu
      by_cases hlt : k < m
      · obtain ⟨b1, o1, z, rfl, _, _, hz1, hz2, hcell⟩ := hz.cell hlt
        go_wp2_with fail
        refine (pick_pos z 41 _ (by omega) (by omega) hz1 hz2).mono ?_
        rintro e w1 ⟨rfl, rfl⟩
        have hp0 := Int.emod_nonneg z (show (41 : Int) ≠ 0 by decide)
        have hp1 := Int.emod_lt_of_pos z (show (0 : Int) < 41 by decide)
        obtain ⟨ρ, hρ⟩ := Int.eq_ofNat_of_zero_le hp0
        rw [hρ] at hp0 hp1 ⊢
        clear hρ hcell
        go_wp2_with fail
        all_goals
          refine (more_v u _ A' _ c' ((bs.drop t).take _) _ ((hr.take ?_).keep (w' := w.drewN q) (fun _ _ => rfl)) (ht.drewN q) ?_).mono ?_
          · omega
          · omega
          rintro e w1 ⟨x, rfl, hx, q1, rfl⟩
          have HX := Lib.hid hx
          clear hx
          go_wp2
        all_goals go_roundw
        case rel =>
          have R := hr.cut (k := ρ) (cap := c') (by omega) hc1
          rw [List.drop_drop, Nat.sub_sub, if_neg (by omega)] at R
          refine ⟨k + 1, t + ρ, _, _, c' - ρ, by omega, by omega, by go_num, by rw [Nat.sub_sub], by omega, by omega, R, ?_, rfl⟩
          rw [HX.out, HU.out, CrcM.more_append, ← List.take_add]
        case measure => simp [intOf]; omega
        case rel =>
          have R := hr.cut (k := n - t) (cap := c') (by omega) hc1
          rw [List.drop_drop, Nat.sub_sub] at R
          refine ⟨k + 1, t + (n - t), _, _, c' - (n - t), by omega, by omega, by go_num, by rw [show n - (t + (n - t)) = 0 from by omega], by omega, by omega, R, ?_, rfl⟩
          rw [HX.out, HU.out, CrcM.more_append, ← List.take_add]
        case measure => simp [intOf]; omega
      · go_wp2_with fail
        refine (more_v u _ A' _ c' (bs.drop t) _ (hr.keep (w' := w.drewN q) (fun _ _ => rfl)) (ht.drewN q) (by omega)).mono ?_
        rintro e w1 ⟨x, rfl, hx, q1, rfl⟩
        have HX := Lib.hid hx
        clear hx
        go_wp2_with fail
        refine (more_v s _ A _ c bs _ (hb.keep (w' := w.drewN _) (fun _ _ => rfl)) (ht.drewN _) (by omega)).mono ?_
        rintro e w2 ⟨y, rfl, hy, q2, rfl⟩
        have hxy : x = y := by rw [HX.out, hy, HU.out, CrcM.more_append, List.take_append_drop]
        clear HX hy
        subst hxy
        go_wp2_with fail
        refine (known_any _ (ht.drewN _)).mono ?_
        rintro e w3 ⟨rfl, hB⟩
        have hB' : Below w.heap.size w w3 := (below_drewN (Below.refl _ _) _).trans hB
        clear hB
        go_wp2
        go_ret
        exact ⟨rfl, hB'⟩
end Go.Proofs.YtinenekbdcbcnaaDoor
