/- The walk of the statement FrameSums. -/
import Derived.Test.YtinenekbdcbcnaaDoorFrameHeads
import Derived.Test.YtinenekbdcbcnaaDoorFrameM3
import Derived.Test.YtinenekbdcbcnaaDoorCrcBits
namespace Go.Proofs.YtinenekbdcbcnaaDoor
open Go.RowKit

theorem own_at {w : World} {base : Nat} {e : TypeId} {size : Nat} {v : Value} {n : Nat} {xs : List Value} (h : w.ownsRow base e size v n xs) (h0 : 0 < n) :
    ∃ g c, v = .slice (some ⟨g, 0, none⟩) n c ∧ n ≤ c ∧ c ≤ 9223372036854775807 ∧ base ≤ g ∧ g < w.heap.size := by
  rcases h.2 with ⟨_, h2⟩ | ⟨g, cap, cur, hv, hb, hg, hn, hm, _⟩
  · omega
  · exact ⟨g, cap, hv, hn, by unfold maxLen at hm; exact hm, hb, (Array.getElem?_eq_some_iff.1 hg).1⟩

theorem RB.cell' {w : World} {P : Nat → Prop} {g n : Nat} {bs : List (BitVec 8)} (h : RB w P (some ⟨g, 0, none⟩) n bs) (j : Nat) (u : Value) (hu : (bytes bs)[j]? = some u) : w.cell? ⟨g, j, none⟩ = some u := by
  have := Reads.cell h rfl hu
  rwa [Nat.zero_add] at this

set_option maxHeartbeats 3200000 in
set_option maxRecDepth 100000 in
theorem sums_walk (kd : Int) (A : Option Addr) (n c : Nat) (bs : List (BitVec 8)) (at_ : Int) (by_ : BitVec 8) (w : World) (ht : Tabs w) (hkd : -9223372036854775808 ≤ kd ∧ kd ≤ 9223372036854775807)
    (hb : RB w (· < w.heap.size) A n bs) (hat : -9223372036854775808 ≤ at_ ∧ at_ ≤ 9223372036854775807) :
    Calls Tryd.prog 13 #[.int .i64 kd, .slice A n c, .int .i64 at_, .int .u8 (by_.toNat : Int)] w fun e w' => e = .returned (.bool true) ∧ Below w.heap.size w w' := by
  by_cases hbig : 500 < n
  · have hbg : decide (500 < (n : Int)) = true := by simp; omega
    go_enter Tryd.func13, Tryd.ntmps13
    go_wp2_with fail
    refine (shown_any w ht).mono ?_
    rintro e w1 ⟨rfl, hB⟩
    go_wp2
    go_ret
    exact ⟨rfl, hB⟩
  have hbg : decide (500 < (n : Int)) = false := by simp; omega
  obtain ⟨k0, hk0, hk1⟩ : ∃ k0 : Nat, kd % 255 = (k0 : Int) ∧ k0 < 255 := by
    have h1 := Int.emod_nonneg kd (show (255 : Int) ≠ 0 by omega)
    have h2 := Int.emod_lt_of_pos kd (show 0 < (255 : Int) by omega)
    exact ⟨(kd % 255).toNat, by omega, by omega⟩
  obtain ⟨i, hi0, hi1⟩ : ∃ i : Nat, at_ % 5 = (i : Int) ∧ i < 5 := by
    have h1 := Int.emod_nonneg at_ (show (5 : Int) ≠ 0 by omega)
    have h2 := Int.emod_lt_of_pos at_ (show 0 < (5 : Int) by omega)
    exact ⟨(at_ % 5).toNat, by omega, by omega⟩
  obtain ⟨k, hk⟩ : ∃ k, k = k0 + 1 := ⟨_, rfl⟩
  have hkk1 : 1 ≤ k := by omega
  have hkk2 : k ≤ 255 := by omega
  obtain ⟨N, hN⟩ : ∃ N, N = n + 4 := ⟨_, rfl⟩
  have hwN : IntKind.i64.wrap ((n : Int) + 9 - 5) = (N : Int) := (IntWalk.i64_in _ (by omega)).trans (by omega)
  go_enter Tryd.func13, Tryd.ntmps13
  go_wp2_with fail
  refine (pick_pos kd 255 w (by decide) (by decide) hkd.1 hkd.2).mono ?_
  rintro e _ ⟨rfl, rfl⟩
  rw [hk0]
  go_wp2_with fail
  rw [show 1 + (k0 : Int) = ((k : Nat) : Int) from by omega]
  obtain ⟨w1, hw1⟩ : ∃ w1, w1 = w.alloc (.cells #[.int .i64 (k : Int), .slice A n c] 48) := ⟨_, rfl⟩
  have k1 : Below w.heap.size w w1 := by rw [hw1]; exact (Below.refl _ _).alloc (Nat.le_refl _) _
  have hb1 := (hb.below k1).more (Q := (· < w1.heap.size)) fun i hi => Nat.lt_of_lt_of_le hi k1.size
  rw [← hw1]
  clear hw1 hk0
  refine (put_ok k A n c bs w1 (ht.below k1 ht.size) hb1 (by omega) (by omega) (by omega)).mono ?_
  rintro e w2 ⟨v, rfl, hown, b2⟩
  obtain ⟨g, cg, rfl, hcg, hcg2, hgb, hgs⟩ := own_at hown (by omega)
  obtain ⟨Q, hQ⟩ : ∃ Q, Q = Fr.headL k n ++ bs := ⟨_, rfl⟩
  have hQl : Q.length = N := by rw [hQ, List.length_append, hb.len, Fr.headL_length]; omega
  obtain ⟨S, hS⟩ : ∃ S, S = CrcM.more 0#32 Q := ⟨_, rfl⟩
  obtain ⟨F, hF⟩ : ∃ F, F = Fr.bytesOf k bs := ⟨_, rfl⟩
  have hFQ : F = Q ++ (Fr.be32 S ++ [10#8]) := by rw [hF, hS, hQ]; unfold Fr.bytesOf; rw [hb.len]
  rw [← hF] at hown
  have hFl : F.length = n + 9 := by rw [hF, Fr.bytesOf_length, hb.len]
  have rx : RB w2 (· < w2.heap.size) (some ⟨g, 0, none⟩) (n + 9) F := (own_reads hown).more fun _ h => h.2
  have rq : RB w2 (· < w2.heap.size) (some ⟨g, 0, none⟩) N Q := by
    have := rx.take (k := N) (by omega)
    rwa [hFQ, List.take_left' hQl] at this
  have hcell : ∀ j u, (bytes (Fr.be32 S ++ [10#8]))[j]? = some u → w2.cell? ⟨g, N + j, none⟩ = some u := by
    intro j u hu
    have := rx.cell' (N + j) u (by rw [hFQ, bytes_append, List.getElem?_append_right (by rw [bytes_length]; omega), bytes_length, hQl, Nat.add_sub_cancel_left]; exact hu)
    exact this
  rw [tail_bytes] at hcell
  have c0 := hcell 0 _ rfl
  have c1 := hcell 1 _ rfl
  have c2 := hcell 2 _ rfl
  have c3 := hcell 3 _ rfl
  have c4 := hcell 4 _ rfl
  rw [Nat.add_zero] at c0
  obtain ⟨J, hJ⟩ : ∃ J, J = N + i := ⟨_, rfl⟩
  obtain ⟨y0, hy0⟩ : ∃ y0, F[J]? = some y0 := ⟨_, List.getElem?_eq_getElem (show J < F.length by omega)⟩
  have c5 : w2.cell? ⟨g, J, none⟩ = some (.int .u8 (y0.toNat : Int)) := rx.cell' J _ (by rw [bytes_get, hy0]; rfl)
  have k2 := next_below k1 b2
  have hfro : w2.frozen? ⟨g, J, none⟩ = false := own_frozen hown J
  have hg0 : (0 : Int) ≤ (N : Int) := by omega
  have hg1 : (N : Int) < (n : Int) + 9 := by omega
  have hg2 : (N : Int) + 1 < (n : Int) + 9 := by omega
  have hg3 : (N : Int) + 2 < (n : Int) + 9 := by omega
  have hg4 : (N : Int) + 3 < (n : Int) + 9 := by omega
  have hg5 : (N : Int) + 4 < (n : Int) + 9 := by omega
  have hg6 : (N : Int) ≤ (cg : Int) := by omega
  have HQl := Lib.hid hQl
  have HS := Lib.hid hS
  have HF := Lib.hid hF
  have HJ := Lib.hid hJ
  have HN := Lib.hid hN
  have HY := Lib.hid hy0
  clear hQ hQl hS hF hFQ hFl hcell rx hJ hy0 b2 hb1 hN hk
  go_wp2_with fail
  refine (sum_q (S.toNat : Int) _ (some ⟨g, 0, none⟩) N cg Q w2 rq (ht.below k2 ht.size) (by omega) (by rw [HS.out])).mono ?_
  rintro e w3 ⟨rfl, q, rfl⟩
  have k3 := below_drewN k2 q
  by_cases hz : by_ = 0#8
  · have dz := byte_zero by_
    rw [decide_eq_true hz] at dz
    clear hz
    go_wp2_with fail
    refine (shown_any _ (ht.below k3 ht.size)).mono ?_
    rintro e w4 ⟨rfl, hB⟩
    have k4 := next_below k3 hB
    go_wp2
    go_ret
    exact ⟨rfl, k4⟩
  have dz := byte_zero by_
  rw [decide_eq_false hz] at dz
  go_wp2_with fail
  refine (pick_pos at_ 5 _ (by decide) (by decide) hat.1 hat.2).mono ?_
  rintro e w3 ⟨rfl, rfl⟩
  rw [hi0]
  clear hi0
  have hown3 := own_drewN hown q
  have d5 : (w2.drewN q).cell? ⟨g, J, none⟩ = some (.int .u8 (y0.toNat : Int)) := c5
  have hfro3 : (w2.drewN q).frozen? ⟨g, J, none⟩ = false := hfro
  clear c0 c1 c2 c3 c4 c5 hfro hown rq k2
  generalize w2.drewN q = w3 at *
  have hwJ : IntKind.i64.wrap ((N : Int) + (i : Int)) = (J : Int) := (IntWalk.i64_in _ (by have := HJ.out; omega)).trans (by have := HJ.out; omega)
  have hJ0 : (0 : Int) ≤ (J : Int) := by omega
  have hJ1 : (J : Int) < (n : Int) + 9 := by have := HJ.out; omega
  obtain ⟨y, hy⟩ : ∃ y, y = y0 ^^^ by_ := ⟨_, rfl⟩
  have ex : bits BinOp.xor IntKind.u8 (y0.toNat : Int) (by_.toNat : Int) = (y.toNat : Int) := by rw [xor8, hy]
  have hne : y ≠ y0 := by
    intro e
    apply hz
    rw [hy] at e
    have : y0 ^^^ (y0 ^^^ by_) = y0 ^^^ y0 := by rw [e]
    rwa [← BitVec.xor_assoc, BitVec.xor_self, BitVec.zero_xor] at this
  have hown4 := own_set hown3 y (show J < n + 9 by have := HJ.out; omega)
  have k4 : Below w.heap.size w (w3.setCell ⟨g, J, none⟩ (.int .u8 (y.toNat : Int))) := k3.setCell (p := ⟨g, J, none⟩) (by show w.heap.size ≤ g; exact Nat.le_trans k1.size hgb) _
  have hbad : Fr.getL (F.set J y) = (0, [], 0, 6) := by
    have e : J = bs.length + 4 + i := by rw [HJ.out, hb.len, HN.out]
    rw [HF.out, e]
    refine Fr.getL_bad (by omega) (by omega) (by rw [hb.len]; omega) hi1 ?_
    rw [← e, ← HF.out, HY.out]
    intro h
    exact hne (Option.some.inj h).symm
  have HG := Lib.hid hbad
  clear hbad hy hne hown3 k3 hz
  go_wp2_with fail
  have r4 : RB (w3.setCell ⟨g, J, none⟩ (.int .u8 (y.toNat : Int))) (· < (w3.setCell ⟨g, J, none⟩ (.int .u8 (y.toNat : Int))).heap.size) (some ⟨g, 0, none⟩) (n + 9) (F.set J y) := (own_reads hown4).more fun _ h => h.2
  clear hown4
  generalize w3.setCell ⟨g, J, none⟩ (.int .u8 (y.toNat : Int)) = w4 at *
  refine (get_any _ (n + 9) cg (F.set J y) w4 (ht.below k4 ht.size) r4 (by omega) hcg hcg2).mono ?_
  rintro e w5 ⟨v5, rfl, hown5, hB5⟩
  rw [HG.out] at hown5
  rw [HG.out]
  obtain ⟨A5, c5, rfl, _⟩ := own_form hown5
  have k5 := next_below k4 hB5
  have k6 := k5.alloc k5.size (.cells #[.int .i64 0, .slice A5 0 c5] 48)
  clear hown5 hB5 r4 k4
  go_wp2_with fail
  refine (shown_any _ (ht.below k6 ht.size)).mono ?_
  rintro e w7 ⟨rfl, hB7⟩
  have k7 := next_below k6 hB7
  go_wp2
  go_ret
  exact ⟨rfl, k7⟩
end Go.Proofs.YtinenekbdcbcnaaDoor
