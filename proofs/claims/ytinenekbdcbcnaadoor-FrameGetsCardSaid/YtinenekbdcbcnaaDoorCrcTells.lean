/- The walk of the statement CrcTells. -/
import Derived.Test.YtinenekbdcbcnaaDoorCrcRef
namespace Go.Proofs.YtinenekbdcbcnaaDoor
open Go.RowKit

theorem sum_b (P : Nat → Prop) (A : Option Addr) (n c : Nat) (bs : List (BitVec 8)) (w : World) (hb : RB w P A n bs) (ht : Tabs w) (hn : n ≤ 9223372036854775807) :
    Calls Tryd.prog 18 #[.slice A n c] w fun e w' => e = .returned (.int .u32 ((CrcM.more 0#32 bs).toNat : Int)) ∧ Below w.heap.size w w' :=
  (sum_any P A n c bs w hb ht hn).mono fun _ _ ⟨h, q, h2⟩ => ⟨h, by rw [h2]; exact below_drewN (Below.refl _ _) q⟩
theorem more_b (s : BitVec 32) (P : Nat → Prop) (A : Option Addr) (n c : Nat) (bs : List (BitVec 8)) (w : World) (hb : RB w P A n bs) (ht : Tabs w) (hn : n ≤ 9223372036854775807) :
    Calls Tryd.prog 20 #[.int .u32 (s.toNat : Int), .slice A n c] w fun e w' => e = .returned (.int .u32 ((CrcM.more s bs).toNat : Int)) ∧ Below w.heap.size w w' :=
  (more_any s P A n c bs w hb ht hn).mono fun _ _ ⟨h, q, h2⟩ => ⟨h, by rw [h2]; exact below_drewN (Below.refl _ _) q⟩
theorem kept_b (P Q : Nat → Prop) (A : Option Addr) (n c : Nat) (bs : List (BitVec 8)) (B : Option Addr) (d : Nat) (w : World) (ha : RB w P A (n + 5) (bs ++ marks 5)) (hb : RB w Q B n bs)
    (hn : n ≤ 140737488350000) (hc : n + 5 ≤ c) (hc2 : c ≤ 9223372036854775807) :
    Calls Tryd.prog 22 #[.slice A (n + 5 : Nat) c, .slice B n d] w fun e w' => e = .returned (.bool true) ∧ Below w.heap.size w w' :=
  (keptBytes_yes P Q A n c bs B d w ha hb hn hc hc2).mono fun _ _ ⟨h, q, h2⟩ => ⟨h, by rw [h2]; exact below_drewN (Below.refl _ _) q⟩

theorem next_below {w w1 w2 : World} (h : Below w.heap.size w w1) (k : Below w1.heap.size w1 w2) : Below w.heap.size w w2 := h.trans (k.mono h.size)

set_option maxHeartbeats 400000 in
theorem tells_walk (s : BitVec 32) (A : Option Addr) (n c : Nat) (bs : List (BitVec 8)) (w : World) (ht : Tabs w) (hb : RB w (· < w.heap.size) A n bs) (hl : n ≤ c) (hm : c ≤ 9223372036854775807) :
    Calls Tryd.prog 3 #[.int .u32 (s.toNat : Int), .slice A n c] w fun e w' => e = .returned (.bool true) ∧ Below w.heap.size w w' := by
  by_cases hbig : 4096 < n
  · go_enter Tryd.func3, Tryd.ntmps3
    go_wp2_with fail
    refine (known_any w ht).mono ?_
    rintro e w1 ⟨rfl, hB⟩
    go_wp2
    go_ret
    exact ⟨rfl, hB⟩
  · go_enter Tryd.func3, Tryd.ntmps3
    go_wp2_with fail
    refine (lentBytes_any _ A n c bs w hb (fun _ h => h) (by omega)).mono ?_
    rintro e w1 ⟨v, rfl, hown, hB1⟩
    obtain ⟨A1, c1, rfl, hc1, hc2, _⟩ := own_form hown
    have hx : RB w1 (· < w1.heap.size) A1 (n + 5) (bs ++ marks 5) := (own_reads hown).more fun _ h => h.2
    have hx' : RB w1 (· < w1.heap.size) A1 n bs := by
      have := hx.take (k := n) (by omega)
      rwa [List.take_left' hb.len] at this
    clear hown
    go_wp2_with fail
    refine (sum_b _ A1 n c1 bs w1 hx' (ht.below hB1 ht.size) (by omega)).mono ?_
    rintro e w2 ⟨rfl, hB⟩
    have k2 := next_below hB1 hB
    have j2 : Below w1.heap.size w1 w2 := hB
    clear hB
    go_wp2_with fail
    refine (refSum_any _ A n c bs w2 (hb.below k2) (fun _ h => Nat.lt_of_lt_of_le h k2.size) (by omega)).mono ?_
    rintro e w3 ⟨rfl, hB⟩
    have k3 := next_below k2 hB
    have j3 := next_below j2 hB
    clear hB k2 j2
    go_wp2_with fail
    refine (more_b s _ A1 n c1 bs w3 (hx'.below j3) (ht.below k3 ht.size) (by omega)).mono ?_
    rintro e w4 ⟨rfl, hB⟩
    have k4 := next_below k3 hB
    have j4 := next_below j3 hB
    clear hB k3 j3
    go_wp2_with fail
    refine (refMore_any s _ A n c bs w4 (hb.below k4) (fun _ h => Nat.lt_of_lt_of_le h k4.size) (by omega)).mono ?_
    rintro e w5 ⟨rfl, hB⟩
    have k5 := next_below k4 hB
    have j5 := next_below j4 hB
    clear hB k4 j4
    go_wp2_with fail
    refine (kept_b _ _ A1 n c1 bs A c w5 (hx.below j5) (hb.below k5) (by omega) hc1 hc2).mono ?_
    rintro e w6 ⟨rfl, hB⟩
    have k6 := next_below k5 hB
    clear hB k5 j5
    go_wp2_with fail
    refine (known_any w6 (ht.below k6 ht.size)).mono ?_
    rintro e w7 ⟨rfl, hB⟩
    have k7 := next_below k6 hB
    clear hB k6
    go_wp2
    go_ret
    exact ⟨rfl, k7⟩
end Go.Proofs.YtinenekbdcbcnaaDoor
