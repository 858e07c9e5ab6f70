/- The contracts of package frame, the third part: wrong, Clone at bytes, Get. -/
import Derived.Test.YtinenekbdcbcnaaDoorFrameB
import Derived.Test.YtinenekbdcbcnaaDoorFrameM2
import Derived.Deep.CutRange
namespace Go.Proofs.YtinenekbdcbcnaaDoor
open Go.RowKit

theorem byte_zero (x : BitVec 8) : ((x.toNat : Int) == 0) = decide (x = 0#8) := by
  by_cases h : x = 0#8
  · subst h; rfl
  · have : x.toNat ≠ 0 := fun e => h (BitVec.eq_of_toNat_eq e)
    simp [h]; omega

theorem sum_q (v : Int) (P : Nat → Prop) (A : Option Addr) (n c : Nat) (bs : List (BitVec 8)) (w : World) (hb : RB w P A n bs) (ht : Tabs w) (hn : n ≤ 9223372036854775807) (hv : ((CrcM.more 0#32 bs).toNat : Int) = v) :
    Calls Tryd.prog 18 #[.slice A n c] w fun e w' => e = .returned (.int .u32 v) ∧ ∃ q, w' = w.drewN q := by rw [← hv]; exact sum_any P A n c bs w hb ht hn
theorem number_q (v : Int) (P : Nat → Prop) (A : Option Addr) (n c : Nat) (bs : List (BitVec 8)) (w : World) (hb : RB w P A n bs) (hn : n ≤ 1099511627776) (hv : ((Fr.numB bs).toNat : Int) = v) :
    Calls Tryd.prog 45 #[.slice A n c] w fun e w' => e = .returned (.int .u32 v) ∧ w' = w := by rw [← hv]; exact number_any P A n c bs w hb hn

set_option maxHeartbeats 1600000 in
set_option maxRecDepth 100000 in
theorem wrong_any (A : Option Addr) (n c : Nat) (bs : List (BitVec 8)) (w : World) (ht : Tabs w) (hb : RB w (· < w.heap.size) A n bs) (hn : n ≤ 1099511627776) (hc : n ≤ c) (hc2 : c ≤ 9223372036854775807) :
    Calls Tryd.prog 42 #[.slice A n c] w fun e w' => (∃ z : Int, e = .returned (.tuple #[.int .i64 z, .int .i64 (Fr.errL bs)]) ∧ (Fr.errL bs = 0 → z = (Fr.lenL bs : Int))) ∧ ∃ q, w' = w.drewN q := by
  by_cases h4 : n < 4
  · have d4 : decide ((n : Int) < 4) = true := by simp; omega
    have hE : Fr.errL bs = 4 := by unfold Fr.errL; rw [Fr.getL_short (by rw [hb.len]; exact h4)]
    rw [hE]
    clear hE
    go_enter Tryd.func42, Tryd.ntmps42
    go_wp2
    go_ret2
    exact ⟨⟨_, rfl, fun h => by cases h⟩, 0, rfl⟩
  have d4 : decide ((n : Int) < 4) = false := by simp; omega
  have h4' : ¬ bs.length < 4 := by rw [hb.len]; exact h4
  obtain ⟨b, off, x0, rfl, hbb, hx0, hc0⟩ := hb.cell (k := 0) (by omega)
  have hx0' : bs.getD 0 0 = x0 := by rw [List.getD, hx0]; rfl
  have hr3 : RB w (· < w.heap.size) (some ⟨b, off + 1, none⟩) 3 ((bs.drop 1).take 3) := (hb.drop (k := 1) (by omega) (some ⟨b, off + 1, none⟩) (fun _ => rfl)).take (by omega)
  have hL := Fr.lenL_num (b := bs) (by rw [hb.len]; omega)
  have hLt := Fr.lenL_lt bs
  obtain ⟨L, hLL⟩ : ∃ L, L = Fr.lenL bs := ⟨_, rfl⟩
  rw [← hLL] at hL hLt
  have hc1 : ¬ c = 1 := by omega
  have h3c : (4 : Int) ≤ (c : Int) := by omega
  have HLL := Lib.hid hLL
  have HL := Lib.hid hL
  have HX := Lib.hid hx0'
  rw [Nat.add_zero] at hc0
  clear hLL hL hx0' hx0
  by_cases hz : x0 = 0#8
  · have dz := byte_zero x0
    rw [decide_eq_true hz] at dz
    have hE : Fr.errL bs = 2 := by unfold Fr.errL; rw [Fr.getL_kind h4' (by rw [HX.out]; exact hz)]
    rw [hE]
    clear hE hz
    go_enter Tryd.func42, Tryd.ntmps42
    go_wp2_with fail
    refine (number_any _ _ 3 (c - 1) _ w hr3 (by decide)).mono ?_
    rintro e _ ⟨rfl, rfl⟩
    rw [HL.out]
    go_wp2
    go_ret2
    exact ⟨⟨_, rfl, fun h => by cases h⟩, 0, rfl⟩
  have dz := byte_zero x0
  rw [decide_eq_false hz] at dz
  have hzb : ¬ bs.getD 0 0 = 0#8 := by rw [HX.out]; exact hz
  by_cases hl : 65536 < L
  · have dl : decide (65536 < (L : Int)) = true := by simp; omega
    have hE : Fr.errL bs = 5 := by unfold Fr.errL; rw [Fr.getL_long h4' hzb (by rw [← HLL.out]; exact hl)]
    rw [hE]
    clear hE hz
    go_enter Tryd.func42, Tryd.ntmps42
    go_wp2_with fail
    refine (number_any _ _ 3 (c - 1) _ w hr3 (by decide)).mono ?_
    rintro e _ ⟨rfl, rfl⟩
    rw [HL.out]
    go_wp2
    go_ret2
    exact ⟨⟨_, rfl, fun h => by cases h⟩, 0, rfl⟩
  have dl : decide (65536 < (L : Int)) = false := by simp; omega
  have hlb : ¬ 65536 < Fr.lenL bs := by rw [← HLL.out]; exact hl
  by_cases hs : n < L + 9
  · have ds : decide ((n : Int) < 4 + (L : Int) + 5) = true := by simp; omega
    have hE : Fr.errL bs = 4 := by unfold Fr.errL; rw [Fr.getL_short2 h4' hzb hlb (by rw [hb.len, ← HLL.out]; exact hs)]
    rw [hE]
    clear hE hz
    go_enter Tryd.func42, Tryd.ntmps42
    go_wp2_with fail
    refine (number_any _ _ 3 (c - 1) _ w hr3 (by decide)).mono ?_
    rintro e _ ⟨rfl, rfl⟩
    rw [HL.out]
    go_wp2
    go_ret2
    exact ⟨⟨_, rfl, fun h => by cases h⟩, 0, rfl⟩
  have ds : decide ((n : Int) < 4 + (L : Int) + 5) = false := by simp; omega
  have hsb : ¬ bs.length < Fr.lenL bs + 9 := by rw [hb.len, ← HLL.out]; exact hs
  have hrw : RB w (· < w.heap.size) (some ⟨b, off, none⟩) (4 + L) (bs.take (4 + L)) := hb.take (by omega)
  have hrt : RB w (· < w.heap.size) (some ⟨b, off + (4 + L), none⟩) 5 ((bs.drop (4 + L)).take 5) := (hb.drop (k := 4 + L) (by omega) (some ⟨b, off + (4 + L), none⟩) (fun _ => rfl)).take (by omega)
  obtain ⟨t0, t1, t2, t3, t4, htl⟩ := Fr.split5 hrt.len
  rw [htl] at hrt
  have hr4 : RB w (· < w.heap.size) (some ⟨b, off + (4 + L), none⟩) 4 [t0, t1, t2, t3] := hrt.take (k := 4) (by decide)
  obtain ⟨_, _, _, hA5, _, hx5, hc5⟩ := hrt.cell (k := 4) (by decide)
  cases hA5
  cases hx5
  obtain ⟨S, hS⟩ : ∃ S, S = CrcM.more 0#32 (bs.take (4 + L)) := ⟨_, rfl⟩
  obtain ⟨T, hT⟩ : ∃ T, T = Fr.numB [t0, t1, t2, t3] := ⟨_, rfl⟩
  have htail : Fr.be32 (CrcM.more 0#32 (bs.take (Fr.lenL bs + 4))) ++ [10#8] = (bs.drop (Fr.lenL bs + 4)).take 5 ↔ S = T ∧ t4 = 10#8 := by
    rw [show Fr.lenL bs + 4 = 4 + L from by rw [← HLL.out]; omega, ← hS, htl, hT]; exact Fr.tail_eq _ _ _ _ _ _
  have hcs : ¬ c = 4 + L := by omega
  have HTL := Lib.hid htail
  have hT4 := t4.isLt
  clear htail htl
  go_enter Tryd.func42, Tryd.ntmps42
  go_wp2_with fail
  refine (number_any _ _ 3 (c - 1) _ w hr3 (by decide)).mono ?_
  rintro e w0 ⟨rfl, h⟩
  rw [h]
  clear h w0
  rw [HL.out]
  go_wp2
  go_quiet (fail)
  rw [show 4 + L + 5 - (4 + L) = 5 from by omega]
  obtain ⟨w1, hw1⟩ : ∃ w1, w1 = w.drewN nq := ⟨_, rfl⟩
  have hrw1 : RB w1 (· < w.heap.size) (some ⟨b, off, none⟩) (4 + L) (bs.take (4 + L)) := by rw [hw1]; exact hrw
  have hr41 : RB w1 (· < w.heap.size) (some ⟨b, off + (4 + L), none⟩) 4 [t0, t1, t2, t3] := by rw [hw1]; exact hr4
  have hc51 : w1.cell? ⟨b, off + (4 + L) + 4, none⟩ = some (.int .u8 (t4.toNat : Int)) := by rw [hw1]; exact hc5
  have ht1 : Tabs w1 := by rw [hw1]; exact ht
  rw [← hw1]
  have HW := Lib.hid hw1
  have HE := Lib.hid (show ∀ z : Int, (z = (L : Int)) → z = (Fr.lenL bs : Int) from fun z hz => by rw [hz, HLL.out])
  have hE1 := fun h => Fr.getL_ok h4' hzb hlb hsb h
  have hE2 := fun h => Fr.getL_sum h4' hzb hlb hsb h
  have HE1 := Lib.hid hE1
  have HE2 := Lib.hid hE2
  have HSS := Lib.hid (show ((CrcM.more 0#32 (bs.take (4 + L))).toNat : Int) = (S.toNat : Int) from by rw [← hS])
  have HTT := Lib.hid (show ((Fr.numB [t0, t1, t2, t3]).toNat : Int) = (T.toNat : Int) from by rw [← hT])
  have h4L : 4 + L ≤ 9223372036854775807 := by omega
  clear hw1 hrw hr4 hc5 ht hrt hr3 hc0 hb hS hT hE1 hE2
  by_cases hst : S = T
  · have hne : ((S.toNat : Int) != (T.toNat : Int)) = false := by simp [hst]
    by_cases ht4 : t4 = 10#8
    · have h10 : ((t4.toNat : Int) != 10) = false := by rw [ht4]; rfl
      have hE : Fr.errL bs = 0 := by unfold Fr.errL; rw [HE1.out (HTL.out.2 ⟨hst, ht4⟩)]
      have HR := Lib.hid hE
      clear hE hst ht4
      go_wp2
      go_quiet (first
        | (go_at_call 18; exact Calls.quiet_of (sum_q _ _ _ _ _ _ _ hrw1 (Tabs.drewN ht1 _) h4L HSS.out))
        | (go_at_call 45; exact Calls.quiet_of_same (number_q _ _ _ 4 _ _ _ hr41 (by decide) HTT.out)))
      go_wp2
      go_ret2
      exact ⟨⟨(L : Int), by rw [HR.out]; rfl, fun _ => HE.out _ rfl⟩, _, by rw [HW.out, World.drewN_drewN]⟩
    · have h10 : ((t4.toNat : Int) != 10) = true := by
        have : t4.toNat ≠ 10 := fun e => ht4 (BitVec.eq_of_toNat_eq e)
        simp; omega
      have hE : Fr.errL bs = 6 := by unfold Fr.errL; rw [HE2.out (fun h => ht4 (HTL.out.1 h).2)]
      have HR := Lib.hid hE
      clear hE hst
      go_wp2
      go_quiet (first
        | (go_at_call 18; exact Calls.quiet_of (sum_q _ _ _ _ _ _ _ hrw1 (Tabs.drewN ht1 _) h4L HSS.out))
        | (go_at_call 45; exact Calls.quiet_of_same (number_q _ _ _ 4 _ _ _ hr41 (by decide) HTT.out)))
      go_wp2
      go_ret2
      exact ⟨⟨0, by rw [HR.out]; rfl, fun h => absurd (HR.out.symm.trans h) (by decide)⟩, _, by rw [HW.out, World.drewN_drewN]⟩
  · have hne : ((S.toNat : Int) != (T.toNat : Int)) = true := by
      have : S.toNat ≠ T.toNat := fun e => hst (BitVec.eq_of_toNat_eq e)
      simp; omega
    have hE : Fr.errL bs = 6 := by unfold Fr.errL; rw [HE2.out (fun h => hst (HTL.out.1 h).1)]
    have HR := Lib.hid hE
    clear hE
    go_wp2
    go_quiet (first
      | (go_at_call 18; exact Calls.quiet_of (sum_q _ _ _ _ _ _ _ hrw1 (Tabs.drewN ht1 _) h4L HSS.out))
      | (go_at_call 45; exact Calls.quiet_of_same (number_q _ _ _ 4 _ _ _ hr41 (by decide) HTT.out)))
    go_wp2
    go_ret2
    exact ⟨⟨0, by rw [HR.out]; rfl, fun h => absurd (HR.out.symm.trans h) (by decide)⟩, _, by rw [HW.out, World.drewN_drewN]⟩
end Go.Proofs.YtinenekbdcbcnaaDoor
