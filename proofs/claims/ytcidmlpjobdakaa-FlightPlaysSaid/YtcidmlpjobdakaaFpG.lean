/- FlightPlays. -/
import Derived.Test.YtcidmlpjobdakaaFpF
namespace Go.Proofs.Ytcidmlpjobdakaa
set_option linter.unusedSimpArgs false
set_option linter.unusedVariables false
set_option linter.unnecessarySimpa false
open Go.RowKit

theorem does_any (w : World) (S1 S2 : Nat → Prop) (g1 g2 : Nat) (ms1 ms2 : List Mg) (a : Ac) (P : Nat → Prop) (h1 : Fli w S1 g1 ms1) (h2 : Fli w S2 g2 ms2) (hk : ms1.map mkey = ms2.map mkey) (hms : ms1.length ≤ 1024) (hdis : ∀ i, S1 i → ¬ S2 i)
    (ha : AcR w P a) (hP : ∀ i, P i → i < w.heap.size ∧ ¬ S1 i ∧ ¬ S2 i) (hsh : ShortA a) (hI : -9223372036854775808 ≤ a.kind ∧ a.kind ≤ 9223372036854775807) :
    Calls Try.prog 29 #[.pointer (some ⟨g1, 0, none⟩), .pointer (some ⟨g2, 0, none⟩), .agg (av a).toArray] w fun r w' => r = .returned (.bool true) ∧ Both w w' S1 S2 g1 g2 := by
  by_cases e2 : a.kind % 5 = 2
  · exact does_take w S1 S2 g1 g2 ms1 ms2 a h1 h2 hk hms hdis hI e2
  by_cases e3 : a.kind % 5 = 3
  · exact does_look w S1 S2 g1 g2 ms1 ms2 a h1 h2 hk hms hdis hI e3
  by_cases e4 : a.kind % 5 = 4
  · exact does_between w S1 S2 g1 g2 ms1 ms2 a h1 h2 hk hms hdis hI e4
  · exact does_send w S1 S2 g1 g2 ms1 ms2 a P h1 h2 hk hms hdis ha hP hsh hI e2 e3 e4
/-- Both flights, behind some acts. -/
def Pair (w0 wr : World) (g1 g2 : Nat) : Prop := ∃ (T1 T2 : Nat → Prop) (ms1 ms2 : List Mg), Fli wr T1 g1 ms1 ∧ Fli wr T2 g2 ms2 ∧ ms1.map mkey = ms2.map mkey ∧ ms1.length ≤ 1024 ∧ (∀ i, T1 i → ¬ T2 i) ∧ (∀ i, T1 i → w0.heap.size ≤ i) ∧ (∀ i, T2 i → w0.heap.size ≤ i) ∧ Below w0.heap.size w0 wr

set_option maxHeartbeats 3200000 in
set_option maxRecDepth 100000 in
theorem flightPlays_any (P : Nat → Prop) (A : Option Addr) (n c : Nat) (l : List Ac) (w : World) (hl : RA w P A n l) (hP : ∀ i, P i → i < w.heap.size) (hn : n ≤ 9223372036854775807) (hI : ∀ a ∈ l, -9223372036854775808 ≤ a.kind ∧ a.kind ≤ 9223372036854775807) :
    Calls Try.prog 9 #[.slice A n c] w fun r w' => r = .returned (.bool true) ∧ Below w.heap.size w w' := by
  go_enter Try.func9, Try.ntmps9
  go_wp2_with fail
  refine (long29_any P A n c l w hl hn).mono ?_
  rintro e _ ⟨β, rfl, hβ, q, rfl⟩
  obtain ⟨w0, hw0⟩ : ∃ W, W = w.drewN q := ⟨_, rfl⟩
  have b0 : Below w.heap.size w w0 := by rw [hw0]; exact below_drewN (Below.refl _ _) q
  have z0 : w.heap.size ≤ w0.heap.size := b0.size
  have L0 : RA w0 (fun i => i < w.heap.size) A n l := (hl.keep fun i hi => b0.block i (hP i hi)).more fun i hi => hP i hi
  rw [← hw0]
  clear hw0 hl hP
  rcases β with _ | _
  case true =>
    clear hβ
    go_wp2_with fail
    refine (known29 w0).mono ?_
    rintro e w1 ⟨rfl, b1⟩
    have k1 := next_below b0 b1
    go_wp2
    go_ret
    exact ⟨rfl, k1⟩
  case false =>
    obtain ⟨h60, hsh⟩ := hβ rfl
    clear hβ
    go_wp2_with fail
    refine (new_any w0).mono ?_
    rintro e w1 ⟨rfl, F1, b1⟩
    obtain ⟨g1, hg1⟩ : ∃ g, g = w0.heap.size := ⟨_, rfl⟩
    have z1 := b1.size
    have h1w := F1.fresh.2.1
    have F1' : Fli w1 (fun i => i = g1) g1 [] := by rw [hg1]; exact F1
    have hg1a : w0.heap.size ≤ g1 := by omega
    have hg1b : g1 < w1.heap.size := by rw [hg1]; exact h1w
    rw [← hg1]
    clear F1 hg1 h1w
    go_wp2_with fail
    refine (refNew_any w1).mono ?_
    rintro e w2 ⟨rfl, F2, b2⟩
    obtain ⟨g2, hg2⟩ : ∃ g, g = w1.heap.size := ⟨_, rfl⟩
    have F2' : Fli w2 (fun i => i = g2) g2 [] := by rw [hg2]; exact F2
    have hg2a : w1.heap.size ≤ g2 := by omega
    rw [← hg2]
    have hpair : Pair w0 w2 g1 g2 := ⟨fun i => i = g1, fun i => i = g2, [], [], F1'.below b2, F2', rfl, by decide, fun i h5 h6 => by omega, fun i h5 => by omega, fun i h5 => by omega, next_below b1 b2⟩
    have HPA := Lib.hid hpair
    clear F2 F1' F2' hg2 hpair b1 b2 hg2a
    go_wp2
    go_loopw [5] (fun i wr => ∃ k : Nat, k ≤ n ∧ i = .int .i64 k ∧ Pair w0 wr g1 g2) (fun i _ => n - (intOf i).toNat)
    case atStart => exact ⟨0, by omega, rfl, HPA.out⟩
    case round =>
      obtain ⟨k, hkn, rfl, T1, T2, ms1, ms2, F1, F2, hkk, hlen, hd, hT1, hT2, hB⟩ := hrel
      have zr := hB.size
      by_cases hlt : k < n
      · obtain ⟨b, off, a, rfl, hPb, hr, ea, hc⟩ := (L0.keep fun i hi => hB.block i (by omega)).cell hlt
        have hki : (k : Int) < (n : Int) := by omega
        have hk0 : (0 : Int) ≤ (k : Int) := by omega
        have ham := List.mem_of_getElem? hr
        have hIa := hI a ham
        have hsa := hsh a ham
        have x0 := hc 0 _ rfl
        have x1 := hc 1 _ rfl
        have x2 := hc 2 _ rfl
        have x3 := hc 3 _ rfl
        rw [Nat.add_zero] at x0
        clear hr hc ham
        go_wp2_with fail
        refine (does_any wr T1 T2 g1 g2 ms1 ms2 a (fun i => i < w.heap.size) F1 F2 hkk hlen hd ea (fun i hi => ⟨by omega, fun hs => by have := hT1 i hs; omega, fun hs => by have := hT2 i hs; omega⟩) hsa hIa).mono ?_
        rintro e w3 ⟨rfl, U1, U2, n1, n2, G1, G2, hnk, hnl, hnd, hu1, hu2, O3⟩
        have z3 := O3.size
        have hB3 : Below w0.heap.size w0 w3 := hB.trans (O3.below (fun i hi => by
          rcases hi with hi | hi
          · exact hT1 i hi
          · exact hT2 i hi) zr)
        have hU1 : ∀ i, U1 i → w0.heap.size ≤ i := fun i hi => by
          rcases hu1 i hi with h5 | h5
          · exact hT1 i h5
          · omega
        have hU2 : ∀ i, U2 i → w0.heap.size ≤ i := fun i hi => by
          rcases hu2 i hi with h5 | h5
          · exact hT2 i h5
          · omega
        have y2 : w3.cell? ⟨b, off + k * 4 + 2, none⟩ = some (.int .i64 a.k) := by
          refine (World.cell?_of_block (w := wr) (O3.2 b (by omega) (fun hs => ?_))).trans x2
          rcases hs with hs | hs
          · have := hT1 b hs; omega
          · have := hT2 b hs; omega
        clear F1 F2 hkk hlen hd hT1 hT2 hB hu1 hu2 O3 x0 x1 x2 x3 ea
        go_wp2_with fail
        refine (len_any w3 U1 g1 n1 G1).mono ?_
        rintro e _ ⟨rfl, hw3⟩
        rw [hw3]
        clear hw3
        go_wp2_with fail
        refine (refLen_any w3 U2 g2 n2 G2).mono ?_
        rintro e _ ⟨rfl, hw3⟩
        rw [hw3]
        clear hw3
        have dN : ((n1.length : Int) != (n2.length : Int)) = false := by rw [mlen hnk]; simp
        have dN' : (n1.length != n2.length) = false := by rw [mlen hnk]; simp
        go_wp2_with fail
        refine (look_at w3 U1 g1 n1 G1 a.k).mono ?_
        rintro e w4 ⟨x, β, rfl, hx, hxI, b4⟩
        have z4 := b4.size
        simp only [mc]
        obtain ⟨wA, hwA⟩ : ∃ W, W = w4.alloc (.cells (mc x).toArray 54) := ⟨_, rfl⟩
        have X0 : BoxV wA w4.heap.size (mc x) 54 := by rw [hwA]; exact heap_alloc_new w4 _
        have bA : Below w4.heap.size w4 wA := by rw [hwA]; exact (Below.refl _ _).alloc (Nat.le_refl _) _
        have zA : w4.heap.size < wA.heap.size := by rw [hwA]; simp
        have G1A := (G1.below b4).below bA
        have G2A := (G2.below b4).below bA
        have hxA := (hxI.below bA (Nat.le_refl _)).mg
        have hBA : Below w0.heap.size w0 wA := hB3.trans ((next_below b4 bA).mono (by omega))
        have y2A := (bA.cell (p := ⟨b, off + k * 4 + 2, none⟩) (by show b < _; omega)).trans ((b4.cell (p := ⟨b, off + k * 4 + 2, none⟩) (by show b < _; omega)).trans y2)
        simp only [mc] at hwA
        rw [hwA] at y2A
        clear G1 G2 hxI b4 bA hB3 y2
        go_wp2_with fail
        rw [← hwA]
        clear hwA y2A
        refine (refLook_at wA U2 g2 n2 G2A a.k).mono ?_
        rintro e w5 ⟨y, γ, rfl, hy, hyI, b5⟩
        obtain ⟨rfl, hxy⟩ := At.same hnk hx hy
        have z5 := b5.size
        simp only [mc]
        obtain ⟨wB, hwB⟩ : ∃ W, W = w5.alloc (.cells (mc y).toArray 54) := ⟨_, rfl⟩
        have Y0 : BoxV wB w5.heap.size (mc y) 54 := by rw [hwB]; exact heap_alloc_new w5 _
        have bB : Below w5.heap.size w5 wB := by rw [hwB]; exact (Below.refl _ _).alloc (Nat.le_refl _) _
        have zB : w5.heap.size < wB.heap.size := by rw [hwB]; simp
        have X2 : BoxV wB w4.heap.size (mc x) 54 := (X0.kept (b5.block _ (by omega))).kept (bB.block _ (by omega))
        have hxB := (hxA.keep fun i hi => b5.block i (by omega)).keep fun i hi => bB.block i (by omega)
        have hyB := (hyI.below bB (Nat.le_refl _)).mg
        have G1B := (G1A.below b5).below bB
        have G2B := (G2A.below b5).below bB
        have hBB : Below w0.heap.size w0 wB := hBA.trans ((next_below b5 bB).mono (by omega))
        have x0 := X2.cell 0 _ rfl
        have x1 := X2.cell 1 _ rfl
        have x2 := X2.cell 2 _ rfl
        have x3 := X2.cell 3 _ rfl
        have x4 := X2.cell 4 _ rfl
        have y0 := Y0.cell 0 _ rfl
        have y1 := Y0.cell 1 _ rfl
        have y2 := Y0.cell 2 _ rfl
        have y3 := Y0.cell 3 _ rfl
        have y4 := Y0.cell 4 _ rfl
        have hββ : (β != β) = false := by simp
        have HXY := Lib.hid hxy
        simp only [mc] at hwB
        have HWB := Lib.hid hwB
        clear hx hy hxy hwB X0 X2 Y0 G1A G2A hxA hyI b5 bB hBA
        go_upto_region 14 with fail
        rw [← HWB.out]
        go_wp2_with fail
        refine (sameMsg_yes _ _ x y wB hxB hyB HXY.out (fun i hi => by omega) (fun i hi => by omega)).mono ?_
        rintro e w6 ⟨rfl, b6⟩
        have hpair : Pair w0 w6 g1 g2 := ⟨U1, U2, n1, n2, G1B.below b6, G2B.below b6, hnk, hnl, hnd, hU1, hU2, hBB.trans (b6.mono (by omega))⟩
        have HPP := Lib.hid hpair
        clear hpair G1B G2B hnd hU1 hU2 hBB b6 x0 x1 x2 x3 x4 y0 y1 y2 y3 y4 hxB hyB
        go_wp2
        go_roundw
        case rel => exact ⟨k + 1, by omega, by go_num, HPP.out⟩
        case measure => simp [intOf]; omega
      · obtain rfl : k = n := by omega
        have kr := b0.trans (hB.mono z0)
        clear F1 F2 hd hT1 hT2 hB
        go_wp2_with fail
        refine (known29 wr).mono ?_
        rintro e w4 ⟨rfl, b4⟩
        have k4 := next_below kr b4
        go_wp2
        go_ret
        exact ⟨rfl, k4⟩
end Go.Proofs.Ytcidmlpjobdakaa
