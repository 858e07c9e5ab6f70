/- The walk of the statement FrameKnown. -/
import Derived.Test.YtinenekbdcbcnaaDoorFrameWhole
import Derived.Test.YtinenekbdcbcnaaDoorFrameBack
import Derived.Test.YtinenekbdcbcnaaDoorFramePuts
import Derived.Test.YtinenekbdcbcnaaDoorCrcLine
namespace Go.Proofs.YtinenekbdcbcnaaDoor
open Go.RowKit

def ksL : List Int := [-9223372036854775808, -1, 0, 1, 255, 256, 9223372036854775807]
theorem ksL_i64 : ∀ z ∈ ksL, -9223372036854775808 ≤ z ∧ z ≤ 9223372036854775807 := by
  intro z hz
  simp only [ksL, List.mem_cons, List.not_mem_nil, or_false] at hz
  omega
theorem RF.lit (w : World) (l : List Fm) (n : Nat) (h : l.length = n) : RF (w.alloc (.cells (fcs l).toArray 48)) (· < (w.alloc (.cells (fcs l).toArray 48)).heap.size) (some ⟨w.heap.size, 0, none⟩) n l := by
  refine ⟨by rw [fcs_length, h], fun _ => ⟨w.heap.size, 0, rfl, by simp, fun j u hu => ?_⟩⟩
  rw [Nat.zero_add, World.cell?_alloc_at _ _ _ _ rfl]
  simpa using hu
theorem k_short : Fr.getL [7#8, 0#8, 0#8] = (0, [], 0, 4) := by decide +kernel
theorem k_kind : Fr.getL [0#8, 0#8, 0#8, 0#8] = (0, [], 0, 2) := by decide +kernel
theorem k_long : Fr.getL [7#8, 1#8, 0#8, 1#8] = (0, [], 0, 5) := by decide +kernel

set_option maxHeartbeats 1600000 in
set_option maxRecDepth 100000 in
theorem known03_walk (w : World) (ht : Tabs w) :
    Calls Tryd.prog 10 #[] w fun e w' => e = .returned (.bool true) ∧ Below w.heap.size w w' := by
  obtain ⟨w0, hw0⟩ : ∃ w0, w0 = w.alloc (.cells (ksL.map (Value.int .i64)).toArray 3) := ⟨_, rfl⟩
  have hk0 : Below w.heap.size w w0 := by rw [hw0]; exact (Below.refl _ _).alloc (Nat.le_refl _) _
  have hz0 : w0.heap.size = w.heap.size + 1 := by rw [hw0]; simp
  have hcs : ∀ i z, ksL[i]? = some z → w0.cell? ⟨w.heap.size, i, none⟩ = some (.int .i64 z) := by
    intro i z h
    rw [hw0, World.cell?_alloc_at _ _ _ _ rfl]
    simp [h]
  have htt : ∀ W, Below w0.heap.size w0 W → Tabs W := fun W h => (ht.below hk0 ht.size).below h (Nat.le_trans ht.size (by rw [hz0]; omega))
  have HT := Lib.hid htt
  have HZ := Lib.hid hz0
  have HC := Lib.hid hcs
  clear hz0 hcs htt
  go_enter Tryd.func10, Tryd.ntmps10
  go_wp2
  go_loopw [2] (fun i wr => ∃ k : Nat, k ≤ 7 ∧ i = .int .i64 k ∧ Below w0.heap.size w0 wr) (fun i _ => 7 - (intOf i).toNat)
  case atStart => exact ⟨0, by omega, rfl, by rw [hw0]; exact Below.refl _ _⟩
  case round =>
    clear hw0
    obtain ⟨k, hk, rfl, hB⟩ := hrel
    by_cases hlt : k < 7
    · have dk : decide ((k : Int) < 7) = true := by simp; omega
      have hk0' : (0 : Int) ≤ (k : Int) := by omega
      have hk1' : (k : Int) < 7 := by omega
      obtain ⟨z, hz⟩ : ∃ z, ksL[k]? = some z := ⟨_, List.getElem?_eq_getElem (show k < ksL.length from hlt)⟩
      have hz64 := ksL_i64 z (List.mem_of_getElem? hz)
      have hcc : ∀ W, Below w0.heap.size w0 W → W.cell? ⟨w.heap.size, k, none⟩ = some (.int .i64 z) := fun W h => (h.cell (p := ⟨w.heap.size, k, none⟩) (by show w.heap.size < _; rw [HZ.out]; omega)).trans (HC.out k z hz)
      have CC := Lib.hid hcc
      have q0 := CC.out wr hB
      clear hz hcc
      go_wp2_with fail
      have B1 : Below w0.heap.size w0 (wr.alloc (.cells #[.int .u8 1] 5)) := hB.alloc hB.size _
      refine (puts_walk z _ 1 1 [1#8] _ (HT.out _ B1) hz64 (RB.lit wr [1#8] 1 rfl)).mono ?_
      rintro e w2 ⟨rfl, b2⟩
      have B2 := next_below B1 b2
      have q1 := CC.out w2 B2
      clear q0 B1 b2 hB
      go_wp2_with fail
      refine (back03_walk z none 0 0 [] none 0 0 [] w2 (HT.out w2 B2) hz64 (RB.nil _ _ _) (RB.nil _ _ _) (Nat.le_refl _) (by decide)).mono ?_
      rintro e w3 ⟨rfl, b3⟩
      have B3 := next_below B2 b3
      have q2 := CC.out w3 B3
      clear q1 b3 B2
      go_wp2_with fail
      obtain ⟨fl, hfl⟩ : ∃ fl : List Fm, fl = [⟨z, none, 0, 0, []⟩, ⟨1, some ⟨w3.heap.size, 0, none⟩, 1, 1, [4#8]⟩] := ⟨_, rfl⟩
      obtain ⟨w4, hw4⟩ : ∃ w4, w4 = w3.alloc (.cells #[.int .u8 4] 5) := ⟨_, rfl⟩
      obtain ⟨w5, hw5⟩ : ∃ w5, w5 = w4.alloc (.cells (fcs fl).toArray 48) := ⟨_, rfl⟩
      have b4 : Below w3.heap.size w3 w4 := by rw [hw4]; exact (Below.refl _ _).alloc (Nat.le_refl _) _
      have b5 : Below w4.heap.size w4 w5 := by rw [hw5]; exact (Below.refl _ _).alloc (Nat.le_refl _) _
      have z4 : w4.heap.size = w3.heap.size + 1 := by rw [hw4]; simp
      have r4 : RB w4 (· < w4.heap.size) (some ⟨w3.heap.size, 0, none⟩) 1 [4#8] := by rw [hw4]; exact RB.lit w3 [4#8] 1 rfl
      have r5 := (r4.below b5).more (Q := (· < w5.heap.size)) fun i hi => Nat.lt_of_lt_of_le hi b5.size
      have rf : RF w5 (· < w5.heap.size) (some ⟨w4.heap.size, 0, none⟩) 2 fl := by rw [hw5]; exact RF.lit w4 fl 2 (by rw [hfl]; rfl)
      have rb : Bods w5 fl := by
        intro r hr
        rw [hfl] at hr
        simp only [List.mem_cons, List.not_mem_nil, or_false] at hr
        rcases hr with rfl | rfl
        · exact ⟨RB.nil _ _ _, Nat.le_refl _, Nat.zero_le _⟩
        · exact ⟨r5, Nat.le_refl _, (show (1 : Nat) ≤ 9223372036854775807 from by decide)⟩
      have B5 := next_below (next_below B3 b4) b5
      have e5 : w5 = (w3.alloc (.cells #[.int .u8 4] 5)).alloc (.cells #[.int .i64 z, .slice none 0 0, .int .i64 1, .slice (some ⟨w3.heap.size, 0, none⟩) 1 1] 48) := by rw [hw5, hw4, hfl]; rfl
      rw [z4] at rf
      rw [← e5]
      clear e5 hw5 hw4 hfl q2 b4 b5 z4 r4 r5 B3
      refine (whole_walk _ 2 2 fl 9 w5 (HT.out w5 B5) rf rb (by decide) (by decide)).mono ?_
      rintro e w6 ⟨rfl, b6⟩
      have B6 := next_below B5 b6
      clear b6 B5 rf rb
      go_wp2
      go_roundw
      case rel => exact ⟨k + 1, by omega, by go_num, B6⟩
      case measure => simp [intOf]; omega
    · have dk : decide ((k : Int) < 7) = false := by simp; omega
      obtain ⟨i0, hi0, hz0, hz1, hz2⟩ := info_parts infoU8
      obtain ⟨N, hN⟩ : ∃ N : Nat, N = 65536 := ⟨_, rfl⟩
      have hN1 : N ≤ 65536 := by omega
      have hNI : (65536 : Int) = (N : Int) := by omega
      have hN9 : ((N : Int) + 9 == 65545) = true := by rw [hN]; rfl
      have hN0 : ((N : Int) == 65536) = true := by rw [hN]; rfl
      have hib : i0.bytes * N ≤ 281474976710656 := by rw [hz2]; omega
      have hz := hB.size
      clear hN
      have HI := Lib.hid hNI
      clear hNI
      go_wp2_with (at_make; refine wpList_make_full _ rfl _ _ 23 rfl w0.heap.size 5 i0 (.int .u8 0) 1 Tryd.underlying23 hi0 hz0 hz1 .i64 .i64 _ _ N rfl rfl HI.out HI.out hib (by unfold maxLen; omega) hz ?_; intro w1 hown1 hg1)
      rw [zeros_eq] at hown1
      have rz : RB w1 (· < w1.heap.size) (some ⟨wr.heap.size, 0, none⟩) N (List.replicate N 0#8) := (own_reads hown1).more fun _ h => h.2
      have B1 : Below w0.heap.size w0 w1 := hB.grown hg1 hz (by simp)
      obtain ⟨R, hR⟩ : ∃ R, R = List.replicate N 0#8 := ⟨_, rfl⟩
      rw [← hR] at rz
      have hRl : R.length = N := by rw [hR]; simp
      clear hR hown1 hg1 hB hz
      obtain ⟨w2, hw2⟩ : ∃ W, W = w1.alloc (.cells #[.int .i64 3, .slice (some ⟨wr.heap.size, 0, none⟩) N N] 48) := ⟨_, rfl⟩
      have b2 : Below w1.heap.size w1 w2 := by rw [hw2]; exact (Below.refl _ _).alloc (Nat.le_refl _) _
      have B2 := next_below B1 b2
      have r2 := (rz.below b2).more (Q := (· < w2.heap.size)) fun i hi => Nat.lt_of_lt_of_le hi b2.size
      go_wp2_with fail
      rw [← hw2]
      clear hw2 b2 rz B1
      refine (put_ok 3 _ N N R w2 (HT.out _ B2) r2 (by decide) (by decide) hN1).mono ?_
      rintro e w3 ⟨v3, rfl, o3, b3⟩
      obtain ⟨X, cx, rfl, hcx, hcx2, _⟩ := own_form o3
      have rx : RB w3 (· < w3.heap.size) X (N + 9) (Fr.bytesOf 3 R) := (own_reads o3).more fun _ h => h.2
      have B3 := next_below B2 b3
      have hgk := Fr.getL_bytesOf (k := 3) (body := R) (rest := []) (by decide) (by decide) (by rw [hRl]; exact hN1)
      rw [List.append_nil, hRl] at hgk
      have HG := Lib.hid hgk
      have HRL := Lib.hid hRl
      clear o3 b3 B2 r2 hgk hRl
      go_wp2_with fail
      refine (get_any X (N + 9) cx (Fr.bytesOf 3 R) w3 (HT.out _ B3) rx (by omega) hcx hcx2).mono ?_
      rintro e w4 ⟨v4, rfl, o4, b4⟩
      rw [HG.out] at o4
      rw [HG.out]
      have o4 : w4.ownsRow w3.heap.size 5 1 v4 R.length (bytes R) := o4
      rw [HRL.out] at o4
      obtain ⟨A4, c4, rfl, _⟩ := own_form o4
      have B4 := next_below B3 b4
      obtain ⟨w5, hw5⟩ : ∃ W, W = w4.alloc (.cells #[.int .i64 3, .slice A4 N c4] 48) := ⟨_, rfl⟩
      have B5 : Below w0.heap.size w0 w5 := by rw [hw5]; exact B4.alloc B4.size _
      have p1 : w5.cell? ⟨w4.heap.size, 1, none⟩ = some (.slice A4 N c4) := by rw [hw5, World.cell?_alloc_new]; rfl
      have z5 : w4.heap.size < w5.heap.size := by rw [hw5]; simp
      obtain ⟨M, hM⟩ : ∃ M : Nat, M = 65537 := ⟨_, rfl⟩
      have hM1 : 65536 < M := by omega
      have hMI : (65537 : Int) = (M : Int) := by omega
      have hib2 : i0.bytes * M ≤ 281474976710656 := by rw [hz2]; omega
      have hM2 : M ≤ maxLen := by unfold maxLen; omega
      clear hM o4 b4 B3 rx
      have HM := Lib.hid hMI
      have HW5 := Lib.hid hw5
      clear hMI hw5
      go_wp2_with (at_make; rw [← show w5 = _ from HW5.out]; refine wpList_make_full w5 rfl _ _ 23 rfl w0.heap.size 5 i0 (.int .u8 0) 1 Tryd.underlying23 hi0 hz0 hz1 .i64 .i64 _ _ M rfl rfl HM.out HM.out hib2 hM2 B5.size ?_; intro w6 hown6 hg6)
      have B6 : Below w0.heap.size w0 w6 := B5.grown hg6 B5.size (by simp)
      have q1 : w6.cell? ⟨w4.heap.size, 1, none⟩ = some (.slice A4 N c4) := hg6.cell p1 (by simp)
      have z46 : w4.heap.size < w6.heap.size := Nat.lt_of_lt_of_le z5 hg6.size
      have Q1 := Lib.hid q1
      clear hown6 hg6 p1 z5 B5 q1
      go_wp2_with fail
      refine (put_long 3 _ M M w6 (by decide) (by decide) hM1).mono ?_
      rintro e w8 ⟨rfl, b7⟩
      have B8 := next_below B6 b7
      have E8 : Below w6.heap.size w6 w8 := b7
      clear b7
      go_wp2_with fail
      have C8 : Below w0.heap.size w0 (w8.alloc (.cells (bytes [7#8, 0#8, 0#8]).toArray 5)) := B8.alloc B8.size _
      have D8 : Below w6.heap.size w6 (w8.alloc (.cells (bytes [7#8, 0#8, 0#8]).toArray 5)) := E8.alloc E8.size _
      refine (get_any _ 3 3 [7#8, 0#8, 0#8] _ (HT.out _ C8) (RB.lit w8 [7#8, 0#8, 0#8] 3 rfl) (by decide) (by decide) (by decide)).mono ?_
      rintro e x8 ⟨y8, rfl, o8, b8⟩
      rw [k_short] at o8
      rw [k_short]
      obtain ⟨A8, c8, rfl, _⟩ := own_form o8
      have B10a := (next_below C8 b8)
      have E10a := (next_below D8 b8)
      obtain ⟨w10, hw10⟩ : ∃ W, W = x8.alloc (.cells #[.int .i64 0, .slice A8 0 c8] 48) := ⟨_, rfl⟩
      have B10 : Below w0.heap.size w0 w10 := by rw [hw10]; exact B10a.alloc B10a.size _
      have E10 : Below w6.heap.size w6 w10 := by rw [hw10]; exact E10a.alloc E10a.size _
      have s10 : w10.heap.size = x8.heap.size + 1 := by rw [hw10]; simp
      have S10 := Lib.hid s10
      clear s10
      have q1 : x8.cell? ⟨w4.heap.size, 1, none⟩ = some (.slice A4 N c4) := (E10a.cell (p := ⟨w4.heap.size, 1, none⟩) z46).trans Q1.out
      have z10 : w4.heap.size < x8.heap.size := Nat.lt_of_lt_of_le z46 E10a.size
      clear C8 D8 o8 b8 B8 E8 B10a E10a
      go_wp2_with fail
      rw [← hw10]
      try rw [← S10.out]
      clear hw10 q1 z10
      have C10 : Below w0.heap.size w0 (w10.alloc (.cells (bytes [0#8, 0#8, 0#8, 0#8]).toArray 5)) := B10.alloc B10.size _
      have D10 : Below w6.heap.size w6 (w10.alloc (.cells (bytes [0#8, 0#8, 0#8, 0#8]).toArray 5)) := E10.alloc E10.size _
      refine (get_any _ 4 4 [0#8, 0#8, 0#8, 0#8] _ (HT.out _ C10) (RB.lit w10 [0#8, 0#8, 0#8, 0#8] 4 rfl) (by decide) (by decide) (by decide)).mono ?_
      rintro e x10 ⟨y10, rfl, o10, b10⟩
      rw [k_kind] at o10
      rw [k_kind]
      obtain ⟨A10, c10, rfl, _⟩ := own_form o10
      have B12a := (next_below C10 b10)
      have E12a := (next_below D10 b10)
      obtain ⟨w12, hw12⟩ : ∃ W, W = x10.alloc (.cells #[.int .i64 0, .slice A10 0 c10] 48) := ⟨_, rfl⟩
      have B12 : Below w0.heap.size w0 w12 := by rw [hw12]; exact B12a.alloc B12a.size _
      have E12 : Below w6.heap.size w6 w12 := by rw [hw12]; exact E12a.alloc E12a.size _
      have s12 : w12.heap.size = x10.heap.size + 1 := by rw [hw12]; simp
      have S12 := Lib.hid s12
      clear s12
      have q1 : x10.cell? ⟨w4.heap.size, 1, none⟩ = some (.slice A4 N c4) := (E12a.cell (p := ⟨w4.heap.size, 1, none⟩) z46).trans Q1.out
      have z12 : w4.heap.size < x10.heap.size := Nat.lt_of_lt_of_le z46 E12a.size
      clear C10 D10 o10 b10 B10 E10 B12a E12a
      go_wp2_with fail
      rw [← hw12]
      try rw [← S12.out]
      clear hw12 q1 z12
      have C12 : Below w0.heap.size w0 (w12.alloc (.cells (bytes [7#8, 1#8, 0#8, 1#8]).toArray 5)) := B12.alloc B12.size _
      have D12 : Below w6.heap.size w6 (w12.alloc (.cells (bytes [7#8, 1#8, 0#8, 1#8]).toArray 5)) := E12.alloc E12.size _
      refine (get_any _ 4 4 [7#8, 1#8, 0#8, 1#8] _ (HT.out _ C12) (RB.lit w12 [7#8, 1#8, 0#8, 1#8] 4 rfl) (by decide) (by decide) (by decide)).mono ?_
      rintro e x12 ⟨y12, rfl, o12, b12⟩
      rw [k_long] at o12
      rw [k_long]
      obtain ⟨A12, c12, rfl, _⟩ := own_form o12
      have B14a := (next_below C12 b12)
      have E14a := (next_below D12 b12)
      obtain ⟨w14, hw14⟩ : ∃ W, W = x12.alloc (.cells #[.int .i64 0, .slice A12 0 c12] 48) := ⟨_, rfl⟩
      have B14 : Below w0.heap.size w0 w14 := by rw [hw14]; exact B14a.alloc B14a.size _
      have E14 : Below w6.heap.size w6 w14 := by rw [hw14]; exact E14a.alloc E14a.size _
      have s14 : w14.heap.size = x12.heap.size + 1 := by rw [hw14]; simp
      have S14 := Lib.hid s14
      clear s14
      have q1 : x12.cell? ⟨w4.heap.size, 1, none⟩ = some (.slice A4 N c4) := (E14a.cell (p := ⟨w4.heap.size, 1, none⟩) z46).trans Q1.out
      have z14 : w4.heap.size < x12.heap.size := Nat.lt_of_lt_of_le z46 E14a.size
      clear C12 D12 o12 b12 B12 E12 B14a E14a
      go_wp2_with fail
      rw [← hw14]
      try rw [← S14.out]
      clear hw14 q1 z14
      refine (shown_any w14 (HT.out _ B14)).mono ?_
      rintro e w15 ⟨rfl, b15⟩
      have B15 := next_below B14 b15
      go_wp2
      go_ret
      exact ⟨rfl, hk0.trans (B15.mono hk0.size)⟩
end Go.Proofs.YtinenekbdcbcnaaDoor
