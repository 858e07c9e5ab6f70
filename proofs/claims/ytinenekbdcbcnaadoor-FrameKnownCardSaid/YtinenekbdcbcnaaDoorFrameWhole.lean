/- The walk of the statement FrameWhole. -/
import Derived.Test.YtinenekbdcbcnaaDoorFrScan
namespace Go.Proofs.YtinenekbdcbcnaaDoor
open Go.RowKit

set_option maxHeartbeats 1600000 in
set_option maxRecDepth 100000 in
theorem whole_walk (A : Option Addr) (n0 c0 : Nat) (l0 : List Fm) (at0 : Int) (w : World) (ht : Tabs w) (hf : RF w (· < w.heap.size) A n0 l0) (hx : Bods w l0) (hn0 : n0 ≤ 9223372036854775807) (hat : -9223372036854775808 ≤ at0 ∧ at0 ≤ 9223372036854775807) :
    Calls Tryd.prog 9 #[.slice A n0 c0, .int .i64 at0] w fun e w' => e = .returned (.bool true) ∧ Below w.heap.size w w' := by
  go_enter Tryd.func9, Tryd.ntmps9
  go_wp2_with fail
  refine (right_any A n0 c0 l0 w hf hn0).mono ?_
  rintro e w1 ⟨v1, fs, rfl, o1, h20, hgd, k1⟩
  obtain ⟨n, hn⟩ : ∃ n, n = fs.length := ⟨_, rfl⟩
  rw [← hn] at o1 h20
  obtain ⟨F, cF, rfl, hcF, hcF2, _⟩ := own_form o1
  have rF : RF w1 (· < w1.heap.size) F n fs := (own_reads o1).more fun _ h => h.2
  have bF : Bods w1 fs := (show Bods w fs from fun r hr => hx r (hgd r hr).1).below k1
  have hg : ∀ r ∈ fs, goodF r := fun r hr => (hgd r hr).2
  have hok := good_ok bF hg
  have Hn := Lib.hid hn
  clear o1 hgd hn
  go_wp2_with fail
  refine (rowF_any F n cF fs w1 (ht.below k1 ht.size) rF bF hg h20).mono ?_
  rintro e w2 ⟨vb, ve, rfl, ob, oe, b2⟩
  obtain ⟨K, hK⟩ : ∃ K, K = fs.map fkey := ⟨_, rfl⟩
  rw [← hK] at ob hok
  have hKl : K.length = n := by rw [hK, List.length_map, ← Hn.out]
  obtain ⟨N, hN⟩ : ∃ N, N = (Fr.cat K).length := ⟨_, rfl⟩
  have hN2 : N ≤ 10180 := by have := Fr.cat_len K hok; omega
  rw [← hN] at ob
  obtain ⟨B, cB, rfl, hcB, hcB2, _⟩ := own_form ob
  obtain ⟨E, cE, rfl, _, _, _⟩ := own_form oe
  have rB : RB w2 (· < w2.heap.size) B N (Fr.cat K) := (own_reads ob).more fun _ h => h.2
  have rE : Reads w2 (· < w2.heap.size) 1 E n ((endsL fs n).map (Value.int .i64)) := (own_reads oe).more fun _ h => h.2
  have k2 := next_below k1 b2
  have rF2 := (rF.below b2).more (Q := (· < w2.heap.size)) fun i hi => Nat.lt_of_lt_of_le hi b2.size
  have bF2 := bF.below b2
  have htk : ∀ k, k < n → (endsL fs n)[k]? = some ((Fr.cat (K.take (k + 1))).length : Int) := fun k hk => by rw [hK]; exact endsL_get fs n k hk
  have HTK := Lib.hid htk
  have HKK := Lib.hid hK
  have HNN := Lib.hid hN
  have HOK := Lib.hid hok
  have HKL := Lib.hid hKl
  clear ob oe htk hK hN hok hKl rF bF b2 k1 hx hf
  go_wp2_with fail
  obtain ⟨at_, ha1, ha2⟩ : ∃ a : Nat, at0 % ((N : Int) + 1) = (a : Int) ∧ a ≤ N := by
    have h1 := Int.emod_nonneg at0 (show ((N : Int) + 1) ≠ 0 by omega)
    have h2 := Int.emod_lt_of_pos at0 (show 0 < ((N : Int) + 1) by omega)
    exact ⟨(at0 % ((N : Int) + 1)).toNat, by omega, by omega⟩
  refine (pick_pos at0 ((N : Int) + 1) w2 (by omega) (by omega) hat.1 hat.2).mono ?_
  rintro e w3 ⟨rfl, h3⟩
  rw [← h3, ha1]
  clear h3 ha1 w3
  go_wp2
  go_loopw [7, 8] (fun s7 s8 wr => ∃ m : Nat, m ≤ n ∧ s7 = .int .i64 m ∧ s8 = .int .i64 ((Fr.cat (K.take m)).length : Nat) ∧ (Fr.cat (K.take m)).length ≤ at_ ∧ w2 = wr) (fun s7 _ _ => n - (intOf s7).toNat)
  case atStart => exact ⟨0, by omega, rfl, by simp [Fr.cat], by simp [Fr.cat], rfl⟩
  case round =>
    obtain ⟨m, hm, rfl, rfl, hle, rfl⟩ := hrel
    obtain ⟨k0, hk0⟩ : ∃ k0, k0 = (Fr.cat (K.take m)).length := ⟨_, rfl⟩
    rw [← hk0]
    by_cases hmn : m < n
    · have dm : decide ((m : Int) < (n : Int)) = true := by simp; omega
      obtain ⟨e0, he0⟩ : ∃ e0, e0 = (Fr.cat (K.take (m + 1))).length := ⟨_, rfl⟩
      obtain ⟨bE, oE, rfl, _⟩ := rE.at_ (by omega)
      have hc : w2.cell? ⟨bE, oE + m, none⟩ = some (.int .i64 (e0 : Int)) := rE.cell rfl (by rw [List.getElem?_map, HTK.out m hmn, ← he0]; rfl)
      by_cases hea : e0 ≤ at_
      · have de : decide ((e0 : Int) ≤ (at_ : Int)) = true := by simp; omega
        have HE := Lib.hid he0
        clear he0 hk0
        go_wp2
        go_roundw
        case rel => exact ⟨m + 1, by omega, by go_num, by rw [← HE.out], by rw [← HE.out]; exact hea, trivial⟩
        case measure => simp [intOf]; omega
      · have de : decide ((e0 : Int) ≤ (at_ : Int)) = false := by simp; omega
        have hstop : m < K.length → at_ < (Fr.cat (K.take (m + 1))).length := fun _ => by rw [← he0]; omega
        clear he0
        have hkk : (((Fr.cat (K.take m)).length : Nat) : Int) = (k0 : Int) := by rw [hk0]
        have hst := Fr.steps_cut HOK.out m (by rw [HKL.out]; exact hm) hle
        have hsh := Fr.short_cut HOK.out (at_ := at_) (n := m) (by rw [HKL.out]; exact hm) hstop
        rw [← hk0] at hst hsh hle
        have HST := Lib.hid hst
        have HSH := Lib.hid hsh
        clear hst hsh hstop hk0 hkk
        go_wp2_with fail
        refine (scan_any B at_ cB ((Fr.cat K).take at_) w2 (ht.below k2 ht.size) (rB.take ha2) (by omega) (by omega) hcB2).mono ?_
        rintro e w3 ⟨vx, gs, at2, rfl, ox, kx, sx, ex, _, b3⟩
        obtain ⟨hgs, e2⟩ := sx.unique ex HST.out (by unfold Fr.errL; rw [HSH.out]; decide)
        obtain rfl := e2.symm
        have hgl : gs.length = m := by
          have := congrArg List.length hgs
          rw [List.length_map, List.length_take, HKL.out] at this
          omega
        rw [hgl] at ox
        obtain ⟨X, cX, rfl, _, _, _⟩ := own_form ox
        have rx : RF w3 (· < w3.heap.size) X m gs := (own_reads ox).more fun _ h => h.2
        have bx := kx.bods
        have k3 := next_below k2 b3
        have rl := (rF2.below b3).take hm
        have bl : Bods w3 (fs.take m) := fun r hr => (bF2.below b3) r (List.mem_of_mem_take hr)
        have hkeys : gs.map fkey = (fs.take m).map fkey := by rw [hgs, HKK.out, List.map_take]
        have rB3 := (rB.below b3).take ha2
        have HKEY := Lib.hid hkeys
        clear hgs hgl ox kx sx ex hkeys
        go_wp2_with fail
        refine (sameFrames_yes _ _ X m cX gs F cF (fs.take m) w3 rx rl bx bl HKEY.out (by omega)).mono ?_
        rintro e w4 ⟨rfl, q, rfl⟩
        have k4 := below_drewN k3 q
        have rB4 : RB (w3.drewN q) (· < w2.heap.size) B at_ ((Fr.cat K).take at_) := rB3
        have z23 : w2.heap.size ≤ (w3.drewN q).heap.size := b3.size
        clear rx rl bx bl k3 b3 rB3
        generalize w3.drewN q = w4 at *
        have hcut := (rB4.cut (k := k0) (cap := cB) hle (by omega)).more (Q := (· < w4.heap.size)) fun i hi => Nat.lt_of_lt_of_le hi z23
        have hi0 : (0 : Int) ≤ (k0 : Int) := by omega
        have hi1 : (k0 : Int) ≤ (at_ : Int) := by omega
        have hi2 : (at_ : Int) ≤ (cB : Int) := by omega
        clear rB4
        go_wp2_with fail
        all_goals
          (first | (subst h; rw [if_pos rfl] at hcut) | rw [if_neg (by assumption)] at hcut
           refine (get_any _ _ _ _ w4 (ht.below k4 ht.size) hcut (by omega) (by omega) (by omega)).mono ?_
           rintro e w5 ⟨v5, rfl, o5, b5⟩
           rw [HSH.out] at o5
           rw [HSH.out]
           obtain ⟨A5, c5, rfl, _⟩ := own_form o5
           have k5 := next_below k4 b5
           have k6 := k5.alloc k5.size (.cells #[.int .i64 0, .slice A5 0 c5] 48)
           clear o5 b5 hcut
           go_wp2_with fail
           refine (shown_any _ (ht.below k6 ht.size)).mono ?_
           rintro e w7 ⟨rfl, b7⟩
           have k7 := next_below k6 b7
           go_wp2
           go_ret
           exact ⟨rfl, k7⟩)
    · have dm : decide ((m : Int) < (n : Int)) = false := by simp; omega
      have hstop : m < K.length → at_ < (Fr.cat (K.take (m + 1))).length := fun h => by rw [HKL.out] at h; omega
      have hkk : (((Fr.cat (K.take m)).length : Nat) : Int) = (k0 : Int) := by rw [hk0]
      have hst := Fr.steps_cut HOK.out m (by rw [HKL.out]; exact hm) hle
      have hsh := Fr.short_cut HOK.out (at_ := at_) (n := m) (by rw [HKL.out]; exact hm) hstop
      rw [← hk0] at hst hsh hle
      have HST := Lib.hid hst
      have HSH := Lib.hid hsh
      clear hst hsh hstop hk0 hkk
      go_wp2_with fail
      refine (scan_any B at_ cB ((Fr.cat K).take at_) w2 (ht.below k2 ht.size) (rB.take ha2) (by omega) (by omega) hcB2).mono ?_
      rintro e w3 ⟨vx, gs, at2, rfl, ox, kx, sx, ex, _, b3⟩
      obtain ⟨hgs, e2⟩ := sx.unique ex HST.out (by unfold Fr.errL; rw [HSH.out]; decide)
      obtain rfl := e2.symm
      have hgl : gs.length = m := by
        have := congrArg List.length hgs
        rw [List.length_map, List.length_take, HKL.out] at this
        omega
      rw [hgl] at ox
      obtain ⟨X, cX, rfl, _, _, _⟩ := own_form ox
      have rx : RF w3 (· < w3.heap.size) X m gs := (own_reads ox).more fun _ h => h.2
      have bx := kx.bods
      have k3 := next_below k2 b3
      have rl := (rF2.below b3).take hm
      have bl : Bods w3 (fs.take m) := fun r hr => (bF2.below b3) r (List.mem_of_mem_take hr)
      have hkeys : gs.map fkey = (fs.take m).map fkey := by rw [hgs, HKK.out, List.map_take]
      have rB3 := (rB.below b3).take ha2
      have HKEY := Lib.hid hkeys
      clear hgs hgl ox kx sx ex hkeys
      go_wp2_with fail
      refine (sameFrames_yes _ _ X m cX gs F cF (fs.take m) w3 rx rl bx bl HKEY.out (by omega)).mono ?_
      rintro e w4 ⟨rfl, q, rfl⟩
      have k4 := below_drewN k3 q
      have rB4 : RB (w3.drewN q) (· < w2.heap.size) B at_ ((Fr.cat K).take at_) := rB3
      have z23 : w2.heap.size ≤ (w3.drewN q).heap.size := b3.size
      clear rx rl bx bl k3 b3 rB3
      generalize w3.drewN q = w4 at *
      have hcut := (rB4.cut (k := k0) (cap := cB) hle (by omega)).more (Q := (· < w4.heap.size)) fun i hi => Nat.lt_of_lt_of_le hi z23
      have hi0 : (0 : Int) ≤ (k0 : Int) := by omega
      have hi1 : (k0 : Int) ≤ (at_ : Int) := by omega
      have hi2 : (at_ : Int) ≤ (cB : Int) := by omega
      clear rB4
      go_wp2_with fail
      all_goals
        (first | (subst h; rw [if_pos rfl] at hcut) | rw [if_neg (by assumption)] at hcut
         refine (get_any _ _ _ _ w4 (ht.below k4 ht.size) hcut (by omega) (by omega) (by omega)).mono ?_
         rintro e w5 ⟨v5, rfl, o5, b5⟩
         rw [HSH.out] at o5
         rw [HSH.out]
         obtain ⟨A5, c5, rfl, _⟩ := own_form o5
         have k5 := next_below k4 b5
         have k6 := k5.alloc k5.size (.cells #[.int .i64 0, .slice A5 0 c5] 48)
         clear o5 b5 hcut
         go_wp2_with fail
         refine (shown_any _ (ht.below k6 ht.size)).mono ?_
         rintro e w7 ⟨rfl, b7⟩
         have k7 := next_below k6 b7
         go_wp2
         go_ret
         exact ⟨rfl, k7⟩)
end Go.Proofs.YtinenekbdcbcnaaDoor
