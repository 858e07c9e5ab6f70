/- The walk of FlightKnown. -/
import Derived.Test.YtcidmlpjobdakaaMgK
namespace Go.Proofs.Ytcidmlpjobdakaa
open Go.RowKit

theorem RN.of_block {w : World} {zs : List Int} {P : Nat → Prop} (hP : P w.heap.size) : RN (w.alloc (.cells (ints zs).toArray 3)) P (some ⟨w.heap.size, 0, none⟩) zs.length zs := by
  refine ⟨by simp [ints], fun _ => ⟨w.heap.size, 0, rfl, hP, fun j u hu => ?_⟩⟩
  rw [Nat.zero_add, World.cell?_alloc_at _ _ _ _ rfl]
  simpa using hu

set_option maxHeartbeats 1600000 in
set_option maxRecDepth 100000 in
theorem flightKnown_walk (w : World) : Calls Try.prog 13 #[] w fun r w' => r = .returned (.bool true) ∧ Below w.heap.size w w' := by
  go_enter Try.func13, Try.ntmps13
  go_wp2_with fail
  refine (new_any w).mono ?_
  rintro e w1 ⟨rfl, F1, b1⟩
  obtain ⟨g, hg⟩ : ∃ g, g = w.heap.size := ⟨_, rfl⟩
  rw [← hg] at F1 ⊢
  have hgw : w.heap.size ≤ g := by omega
  clear hg
  go_wp2_with fail
  refine (send_any w1 (fun i => i = g) g [] F1 (by simp) (fun _ => False) none 0 0 [] Reads.zero (fun m hm => by cases hm) (fun i hi => hi.elim) (by omega) (by omega) (fun _ => rfl)).mono ?_
  rintro e w2 ⟨ns, he, hkeys, F2, O2⟩
  obtain rfl : e = .returned (.int .i64 0) := he
  obtain rfl : ns = [] := by simpa using hkeys
  obtain ⟨S, hS⟩ : ∃ S, S = Grow (fun i => i = g) w1 w2 := ⟨_, rfl⟩
  rw [← hS, List.nil_append] at F2
  have hSg : ∀ i, S i → w.heap.size ≤ i := by
    intro i hi
    rw [hS] at hi
    have := b1.size
    rcases hi with hi | hi <;> omega
  have k2 : Below w.heap.size w w2 := b1.trans (O2.below (fun i hi => by omega) b1.size)
  clear hS O2 F1 b1 hkeys
  go_wp2_with fail
  refine (len_fix w2 S g [] F2 0 rfl).mono ?_
  rintro e _ ⟨rfl, rfl⟩
  go_wp2_with fail
  refine (between_fix w2 S g [] F2 0 0 (-1) [] rfl (.inl ⟨rfl, fun m hm => by cases hm⟩)).mono ?_
  rintro e w3 ⟨rfl, b3⟩
  have F3 := F2.below b3
  have k3 := next_below k2 b3
  clear F2 k2 b3
  go_wp2_with fail
  obtain ⟨w4, hw4⟩ : ∃ w4, w4 = w3.alloc (.cells #[.int .i64 0, .int .i64 0, .int .i64 0, .slice none 0 0, .slice none 0 0] 54) := ⟨_, rfl⟩
  have b4 : Below w3.heap.size w3 w4 := by rw [hw4]; exact (Below.refl _ _).alloc (Nat.le_refl _) _
  have z4 : w4.heap.size = w3.heap.size + 1 := by rw [hw4]; simp
  have hr4 : Reads w4 (fun i => i = w3.heap.size) 5 (some ⟨w3.heap.size, 0, none⟩) 1 (mcs [zeroMg]) := by
    refine ⟨rfl, fun _ => ⟨w3.heap.size, 0, rfl, rfl, fun j u hu => ?_⟩⟩
    rw [Nat.zero_add, hw4, World.cell?_alloc_at _ _ _ _ rfl]
    simpa [mcs, mc, zeroMg] using hu
  rw [← hw4]
  clear hw4
  refine (send_any w4 S g [] (F3.below b4) (by simp) (fun i => i = w3.heap.size) _ 1 1 [zeroMg] hr4 (fun m hm => by
    obtain rfl := List.mem_singleton.1 hm
    exact ⟨zeroMg_R _ _, zeroMg_fits⟩) (fun i hi => ⟨by omega, fun hs => by have := F3.inw i hs; omega⟩) (Nat.le_refl _) (by omega) (fun e => by cases e)).mono ?_
  rintro e w5 ⟨ns, he, hkeys, F5, O5⟩
  obtain rfl : e = .returned (.int .i64 0) := he
  have hnl : ns.length = 1 := by simpa using congrArg List.length hkeys
  rw [List.nil_append] at F5
  have hkk : ns.map mkey = [zeroMg].map mkey := hkeys
  have hz4 := b4.size
  have hz3 := k3.size
  have k5 : Below w.heap.size w w5 := (next_below k3 b4).trans (O5.below (fun i hi => hSg i hi) (by omega))
  clear O5 F3 b4 hr4 hkeys k3 hSg z4 hz4 hz3
  generalize Grow S w4 w5 = S5 at F5
  go_wp2_with fail
  refine (between_fix w5 S5 g ns F5 0 0 0 [zeroMg] hkk (.inr ⟨0, zeroMg, rfl, rfl, ⟨rfl, rfl⟩, fun j r hj => by omega⟩)).mono ?_
  rintro e w6 ⟨rfl, b6⟩
  have F6 := F5.below b6
  have k6 := next_below k5 b6
  clear F5 k5 b6 hkk
  go_upto_region 5 with fail
  have hRN : RN (w6.alloc (.cells #[.int .i64 (-9223372036854775808), .int .i64 (-1), .int .i64 1, .int .i64 2, .int .i64 9223372036854775807] 3)) (fun i => i = w6.heap.size) (some ⟨w6.heap.size, 0, none⟩) 5 [-9223372036854775808, -1, 1, 2, 9223372036854775807] := RN.of_block (w := w6) (zs := [-9223372036854775808, -1, 1, 2, 9223372036854775807]) rfl
  obtain ⟨w7, hw7⟩ : ∃ w7, w7 = w6.alloc (.cells #[.int .i64 (-9223372036854775808), .int .i64 (-1), .int .i64 1, .int .i64 2, .int .i64 9223372036854775807] 3) := ⟨_, rfl⟩
  obtain ⟨pb, hpb⟩ : ∃ pb, pb = w6.heap.size := ⟨_, rfl⟩
  have b7 : Below w6.heap.size w6 w7 := by rw [hw7]; exact (Below.refl _ _).alloc (Nat.le_refl _) _
  have hpw : pb < w7.heap.size := by rw [hw7, hpb]; simp
  rw [← hw7, ← hpb] at hRN ⊢
  have F7 := F6.below b7
  have k7 := next_below k6 b7
  clear hw7 hpb b7 F6 k6
  go_wp2
  go_loopw [3] (fun i wr => ∃ k : Nat, k ≤ 5 ∧ i = .int .i64 k ∧ Fli wr S5 g ns ∧ Below w7.heap.size w7 wr) (fun i _ => 5 - (intOf i).toNat)
  case atStart => exact ⟨0, by omega, rfl, F7, Below.refl _ _⟩
  case round =>
    clear F7
    obtain ⟨k, hk, rfl, F, hB⟩ := hrel
    by_cases hlt : k < 5
    · have hk1 : (k : Int) < 5 := by omega
      have hk0 : (0 : Int) ≤ (k : Int) := by omega
      obtain ⟨b0, off0, z, hA, hb0, hz, cz⟩ := (hRN.keep (w' := wr) fun i hi => hB.block i (by omega)).cell hlt
      cases hA
      have hout : z < 0 ∨ (ns.length : Int) ≤ z := by
        have := List.mem_of_getElem? hz
        simp at this
        omega
      have hbw := World.block_lt_of_cell? _ _ cz
      rw [Nat.zero_add] at cz
      clear hz hb0
      go_wp2_with fail
      refine (look_out wr S5 g ns F z hout).mono ?_
      rintro e w8 ⟨rfl, b8⟩
      have b9 : Below wr.heap.size wr (w8.alloc (.cells #[.int .i64 0, .int .i64 0, .int .i64 0, .slice none 0 0, .slice none 0 0] 54)) := b8.alloc b8.size _
      obtain ⟨w9, hw9⟩ : ∃ w9, w9 = w8.alloc (.cells #[.int .i64 0, .int .i64 0, .int .i64 0, .slice none 0 0, .slice none 0 0] 54) := ⟨_, rfl⟩
      rw [← hw9] at b9
      have cz9 : w9.cell? ⟨pb, k, none⟩ = some (.int .i64 z) := (b9.cell (p := ⟨pb, k, none⟩) hbw).trans cz
      have F9 := F.below b9
      have B9 := next_below hB b9
      have HW9 := Lib.hid hw9
      clear F hB b9 b8 cz hw9
      simp only [mc, zeroMg]
      go_upto_region 9 with fail
      rw [← HW9.out]
      go_wp2_with fail
      refine (take_out w9 S5 g ns F9 z hout).mono ?_
      rintro e w10 ⟨rfl, b10⟩
      have b11 : Below w9.heap.size w9 (w10.alloc (.cells #[.int .i64 0, .int .i64 0, .int .i64 0, .slice none 0 0, .slice none 0 0] 54)) := b10.alloc b10.size _
      have F11 := F9.below b11
      have B11 := next_below B9 b11
      clear F9 B9 b10 b11 cz9
      simp only [mc, zeroMg]
      go_wp2_with fail
      refine (len_fix _ S5 g ns F11 1 (by rw [hnl]; rfl)).mono ?_
      rintro e _ ⟨rfl, rfl⟩
      go_wp2
      go_roundw
      case rel => exact ⟨k + 1, by omega, by go_num, F11, B11⟩
      case measure => simp [intOf]; omega
    · obtain rfl : k = 5 := by omega
      have k8 := k7.trans (hB.mono k7.size)
      go_wp2_with fail
      refine (full_walk 1999 99 49 (by omega) (by omega) (by omega) wr).mono ?_
      rintro e w8 ⟨rfl, b8⟩
      have k9 := next_below k8 b8
      go_wp2_with fail
      refine (full_walk 1024 1 0 (by omega) (by omega) (by omega) w8).mono ?_
      rintro e w9 ⟨rfl, b9⟩
      have k10 := next_below k9 b9
      go_wp2_with fail
      refine (known29 w9).mono ?_
      rintro e w10 ⟨rfl, b10⟩
      have k11 := next_below k10 b10
      go_wp2
      go_ret
      exact ⟨rfl, k11⟩
end Go.Proofs.Ytcidmlpjobdakaa
