/- does: Take, Look, Between. -/
import Derived.Test.YtcidmlpjobdakaaFpD
import Derived.Test.YtcidmlpjobdakaaPick
namespace Go.Proofs.Ytcidmlpjobdakaa
set_option linter.unusedSimpArgs false
set_option linter.unusedVariables false
set_option linter.unnecessarySimpa false
open Go.RowKit

theorem Off.cat {S T : Nat → Prop} {w w1 w2 : World} (h : Off S w w1) (k : Off T w1 w2) (hT : ∀ i, T i → S i ∨ w.heap.size ≤ i) : Off S w w2 :=
  ⟨h.1.trans k.1, fun i hi hs => (k.2 i (Nat.lt_of_lt_of_le hi h.size) (fun ht => by
    rcases hT i ht with h1 | h1
    · exact hs h1
    · omega)).trans (h.2 i hi hs)⟩
theorem Off.low {S : Nat → Prop} {w w1 w2 : World} (h : Off S w w1) (k : Below w1.heap.size w1 w2) : Off S w w2 := h.cat (T := fun _ => False) (Off.of k) fun i hi => hi.elim
/-- Behind an act: both flights hold the same messages, apart from each other. -/
def Both (w w' : World) (S1 S2 : Nat → Prop) (g1 g2 : Nat) : Prop := ∃ (T1 T2 : Nat → Prop) (ns1 ns2 : List Mg), Fli w' T1 g1 ns1 ∧ Fli w' T2 g2 ns2 ∧ ns1.map mkey = ns2.map mkey ∧ ns1.length ≤ 1024 ∧ (∀ i, T1 i → ¬ T2 i) ∧ (∀ i, T1 i → S1 i ∨ w.heap.size ≤ i) ∧ (∀ i, T2 i → S2 i ∨ w.heap.size ≤ i) ∧ Off (fun i => S1 i ∨ S2 i) w w'

set_option maxHeartbeats 1600000 in
set_option maxRecDepth 100000 in
theorem does_take (w : World) (S1 S2 : Nat → Prop) (g1 g2 : Nat) (ms1 ms2 : List Mg) (a : Ac) (h1 : Fli w S1 g1 ms1) (h2 : Fli w S2 g2 ms2) (hk : ms1.map mkey = ms2.map mkey) (hms : ms1.length ≤ 1024) (hdis : ∀ i, S1 i → ¬ S2 i)
    (hI : -9223372036854775808 ≤ a.kind ∧ a.kind ≤ 9223372036854775807) (hz : a.kind % 5 = 2) :
    Calls Try.prog 29 #[.pointer (some ⟨g1, 0, none⟩), .pointer (some ⟨g2, 0, none⟩), .agg (av a).toArray] w fun r w' => r = .returned (.bool true) ∧ Both w w' S1 S2 g1 g2 := by
  obtain ⟨w0, hw0⟩ : ∃ w0, w0 = w.alloc (.cells (av a).toArray 50) := ⟨_, rfl⟩
  have b0 : Below w.heap.size w w0 := by rw [hw0]; exact (Below.refl _ _).alloc (Nat.le_refl _) _
  have z0 : w0.heap.size = w.heap.size + 1 := by rw [hw0]; simp
  have A0 : BoxV w0 w.heap.size (av a) 50 := by rw [hw0]; exact heap_alloc_new w _
  have c0 := A0.cell 0 _ rfl
  have c1 := A0.cell 1 _ rfl
  go_enter Try.func29, Try.ntmps29
  simp only [av] at hw0 ⊢
  rw [hw0] at c0 c1
  go_wp2_with fail
  rw [← hw0] at c0 c1 ⊢
  clear hw0
  refine (pick_pos a.kind 5 w0 (by decide) (by decide) hI.1 hI.2).mono ?_
  rintro e _ ⟨he, rfl⟩
  rw [hz] at he
  obtain rfl := he
  have HZ := Lib.hid hz
  clear hz c0
  go_wp2_with fail
  refine (take_at w0 S1 g1 ms1 (h1.below b0) a.i).mono ?_
  rintro e w1 ⟨x, β, rfl, hx, hxR, F1, O1⟩
  have z1 := O1.size
  have A1 : BoxV w1 w.heap.size (av a) 50 := A0.kept (O1.2 _ (by omega) (fun hs => by have := h1.inw _ hs; omega))
  simp only [mc]
  obtain ⟨wA, hwA⟩ : ∃ W, W = w1.alloc (.cells (mc x).toArray 54) := ⟨_, rfl⟩
  have X0 : BoxV wA w1.heap.size (mc x) 54 := by rw [hwA]; exact heap_alloc_new w1 _
  have bA : Below w1.heap.size w1 wA := by rw [hwA]; exact (Below.refl _ _).alloc (Nat.le_refl _) _
  have zA : wA.heap.size = w1.heap.size + 1 := by rw [hwA]; simp
  have AA := A1.kept (bA.block _ (by omega))
  have F1A := F1.below bA
  have F2A : Fli wA S2 g2 ms2 := ((h2.below b0).off O1 (fun i hi hs => hdis i hs hi)).below bA
  have hxA := hxR.keep fun i hi => bA.block i hi.2
  have OA : Off (fun i => S1 i ∨ S2 i) w wA := ((Off.of b0).cat O1 (fun i hi => .inl (.inl hi))).low bA
  have c1A := AA.cell 1 _ rfl
  simp only [mc] at hwA
  rw [hwA] at c1A
  clear c1 A1 F1 hxR O1 A0 AA
  go_wp2_with fail
  rw [← hwA]
  clear hwA c1A
  refine (refTake_at wA S2 g2 ms2 F2A (by rw [← mlen hk]; exact hms) a.i).mono ?_
  rintro e w2 ⟨y, γ, rfl, hy, hyR, F2, O2⟩
  obtain ⟨rfl, hxy⟩ := At.same hk hx hy
  have z2 := O2.size
  simp only [mc]
  obtain ⟨wB, hwB⟩ : ∃ W, W = w2.alloc (.cells (mc y).toArray 54) := ⟨_, rfl⟩
  have Y0 : BoxV wB w2.heap.size (mc y) 54 := by rw [hwB]; exact heap_alloc_new w2 _
  have bB : Below w2.heap.size w2 wB := by rw [hwB]; exact (Below.refl _ _).alloc (Nat.le_refl _) _
  have zB : wB.heap.size = w2.heap.size + 1 := by rw [hwB]; simp
  have hS2 : ∀ i, w.heap.size ≤ i → ¬ S2 i := fun i hi hs => by have := h2.inw i hs; omega
  have X2 : BoxV wB w1.heap.size (mc x) 54 := (X0.kept (O2.2 _ (by omega) (hS2 _ (by omega)))).kept (bB.block _ (by omega))
  have hxB := (hxA.keep fun i hi => O2.2 i (by omega) (hS2 i (by omega))).keep fun i hi => bB.block i (by omega)
  have hyB := hyR.keep fun i hi => bB.block i hi.2
  have F1B := (F1A.off O2 hdis).below bB
  have F2B := F2.below bB
  have OB : Off (fun i => S1 i ∨ S2 i) w wB := (OA.cat O2 (fun i hi => .inl (.inr hi))).low bB
  have x0 := X2.cell 0 _ rfl
  have x1 := X2.cell 1 _ rfl
  have x2 := X2.cell 2 _ rfl
  have x3 := X2.cell 3 _ rfl
  have x4 := X2.cell 4 _ rfl
  have y0 := Y0.cell 0 _ rfl
  have y1 := Y0.cell 1 _ rfl
  have y2 := Y0.cell 2 _ rfl
  have y3 := Y0.cell 3 _ rfl
  have y4 := Y0.cell 4 _ rfl
  have hββ : (β == β) = true := by simp
  have HX := Lib.hid hx
  have HY := Lib.hid hy
  have HXY := Lib.hid hxy
  simp only [mc] at hwB
  have HWB := Lib.hid hwB
  clear hx hy hxy hwB X0 X2 Y0 F1A F2A F2 O2 OA hxA hyR
  go_upto_region 5 with fail
  rw [← HWB.out]
  go_wp2_with fail
  refine (sameMsg_yes _ _ x y wB hxB hyB HXY.out (fun i hi => by omega) (fun i hi => by omega)).mono ?_
  rintro e w3 ⟨rfl, b3⟩
  have F13 := F1B.below b3
  have F23 := F2B.below b3
  have O3 := OB.low b3
  clear F1B F2B OB b3 x0 x1 x2 x3 x4 y0 y1 y2 y3 y4 hxB hyB
  go_wp2
  go_ret
  refine ⟨rfl, S1, Grow S2 wA w2, _, _, F13, F23, taken_same hk a.i, Nat.le_trans (taken_len _ _) hms, fun i hi hg => ?_, fun i hi => .inl hi, fun i hi => ?_, O3⟩
  · rcases hg with hg | hg
    · exact hdis i hi hg
    · have := h1.inw i hi; omega
  · rcases hi with hi | hi
    · exact .inl hi
    · exact .inr (by omega)

set_option maxHeartbeats 1600000 in
set_option maxRecDepth 100000 in
theorem does_look (w : World) (S1 S2 : Nat → Prop) (g1 g2 : Nat) (ms1 ms2 : List Mg) (a : Ac) (h1 : Fli w S1 g1 ms1) (h2 : Fli w S2 g2 ms2) (hk : ms1.map mkey = ms2.map mkey) (hms : ms1.length ≤ 1024) (hdis : ∀ i, S1 i → ¬ S2 i)
    (hI : -9223372036854775808 ≤ a.kind ∧ a.kind ≤ 9223372036854775807) (hz : a.kind % 5 = 3) :
    Calls Try.prog 29 #[.pointer (some ⟨g1, 0, none⟩), .pointer (some ⟨g2, 0, none⟩), .agg (av a).toArray] w fun r w' => r = .returned (.bool true) ∧ Both w w' S1 S2 g1 g2 := by
  obtain ⟨w0, hw0⟩ : ∃ w0, w0 = w.alloc (.cells (av a).toArray 50) := ⟨_, rfl⟩
  have b0 : Below w.heap.size w w0 := by rw [hw0]; exact (Below.refl _ _).alloc (Nat.le_refl _) _
  have z0 : w0.heap.size = w.heap.size + 1 := by rw [hw0]; simp
  have A0 : BoxV w0 w.heap.size (av a) 50 := by rw [hw0]; exact heap_alloc_new w _
  have c0 := A0.cell 0 _ rfl
  have c1 := A0.cell 1 _ rfl
  go_enter Try.func29, Try.ntmps29
  simp only [av] at hw0 ⊢
  rw [hw0] at c0 c1
  go_wp2_with fail
  rw [← hw0] at c0 c1 ⊢
  clear hw0
  refine (pick_pos a.kind 5 w0 (by decide) (by decide) hI.1 hI.2).mono ?_
  rintro e _ ⟨he, rfl⟩
  rw [hz] at he
  obtain rfl := he
  have HZ := Lib.hid hz
  clear hz c0
  go_wp2_with fail
  refine (look_at w0 S1 g1 ms1 (h1.below b0) a.i).mono ?_
  rintro e w1 ⟨x, β, rfl, hx, hxI, b1⟩
  have O1 : Off S1 w0 w1 := Off.of b1
  have F1 := (h1.below b0).below b1
  have z1 := O1.size
  have A1 : BoxV w1 w.heap.size (av a) 50 := A0.kept (O1.2 _ (by omega) (fun hs => by have := h1.inw _ hs; omega))
  simp only [mc]
  obtain ⟨wA, hwA⟩ : ∃ W, W = w1.alloc (.cells (mc x).toArray 54) := ⟨_, rfl⟩
  have X0 : BoxV wA w1.heap.size (mc x) 54 := by rw [hwA]; exact heap_alloc_new w1 _
  have bA : Below w1.heap.size w1 wA := by rw [hwA]; exact (Below.refl _ _).alloc (Nat.le_refl _) _
  have zA : wA.heap.size = w1.heap.size + 1 := by rw [hwA]; simp
  have AA := A1.kept (bA.block _ (by omega))
  have F1A := F1.below bA
  have F2A : Fli wA S2 g2 ms2 := ((h2.below b0).off O1 (fun i hi hs => hdis i hs hi)).below bA
  have hxA := hxI.keep fun i _ hi => bA.block i hi
  have OA : Off (fun i => S1 i ∨ S2 i) w wA := ((Off.of b0).cat O1 (fun i hi => .inl (.inl hi))).low bA
  have c1A := AA.cell 1 _ rfl
  simp only [mc] at hwA
  rw [hwA] at c1A
  clear c1 A1 F1 hxI O1 A0 AA b1
  go_wp2_with fail
  rw [← hwA]
  clear hwA c1A
  refine (refLook_at wA S2 g2 ms2 F2A a.i).mono ?_
  rintro e w2 ⟨y, γ, rfl, hy, hyI, b2⟩
  have O2 : Off S2 wA w2 := Off.of b2
  have F2 := F2A.below b2
  have hyR := hyI.mg
  obtain ⟨rfl, hxy⟩ := At.same hk hx hy
  have z2 := O2.size
  simp only [mc]
  obtain ⟨wB, hwB⟩ : ∃ W, W = w2.alloc (.cells (mc y).toArray 54) := ⟨_, rfl⟩
  have Y0 : BoxV wB w2.heap.size (mc y) 54 := by rw [hwB]; exact heap_alloc_new w2 _
  have bB : Below w2.heap.size w2 wB := by rw [hwB]; exact (Below.refl _ _).alloc (Nat.le_refl _) _
  have zB : wB.heap.size = w2.heap.size + 1 := by rw [hwB]; simp
  have hS2 : ∀ i, w.heap.size ≤ i → ¬ S2 i := fun i hi hs => by have := h2.inw i hs; omega
  have X2 : BoxV wB w1.heap.size (mc x) 54 := (X0.kept (O2.2 _ (by omega) (hS2 _ (by omega)))).kept (bB.block _ (by omega))
  have hxB := (hxA.keep fun i h5 h6 => O2.2 i (by omega) (hS2 i (by omega))).keep fun i h5 h6 => bB.block i (by omega)
  have hyB := hyR.keep fun i hi => bB.block i hi.2
  have F1B := (F1A.off O2 hdis).below bB
  have F2B := F2.below bB
  have OB : Off (fun i => S1 i ∨ S2 i) w wB := (OA.cat O2 (fun i hi => .inl (.inr hi))).low bB
  have x0 := X2.cell 0 _ rfl
  have x1 := X2.cell 1 _ rfl
  have x2 := X2.cell 2 _ rfl
  have x3 := X2.cell 3 _ rfl
  have x4 := X2.cell 4 _ rfl
  have y0 := Y0.cell 0 _ rfl
  have y1 := Y0.cell 1 _ rfl
  have y2 := Y0.cell 2 _ rfl
  have y3 := Y0.cell 3 _ rfl
  have y4 := Y0.cell 4 _ rfl
  have hββ : (β == β) = true := by simp
  have HX := Lib.hid hx
  have HY := Lib.hid hy
  have HXY := Lib.hid hxy
  simp only [mc] at hwB
  have HWB := Lib.hid hwB
  clear hx hy hxy hwB X0 Y0 F1A F2A F2 O2 OA hxA hyR hyI b2
  go_upto_region 9 with fail
  rw [← HWB.out]
  go_wp2_with fail
  refine (sameMsg_yes _ _ x y wB hxB.mg hyB HXY.out (fun i hi => by omega) (fun i hi => by omega)).mono ?_
  rintro e w3 ⟨rfl, b3⟩
  have z3 := b3.size
  have F13 := F1B.below b3
  have F23 := F2B.below b3
  have O3 := OB.low b3
  have hx3 := hxB.below b3 (by omega)
  have X3 := X2.kept (b3.block _ (by omega))
  have x3 := X3.cell 3 _ rfl
  clear F1B F2B OB b3 hxB hyB X2
  go_wp2_with fail
  refine (spoilInts_any _ x.VA x.vn x.vc w3 hx3.softV hx3.fits.1).mono ?_
  rintro e w4 ⟨⟨u4', rfl⟩, s4⟩
  have X4 := X3.kept (s4.far _ (by omega))
  have x4 := X4.cell 4 _ rfl
  have z4 := s4.size
  have hn1 : ∀ i, S1 i → ¬ (w0.heap.size ≤ i ∧ i < w1.heap.size) := fun i hi hg => by have := h1.inw i hi; omega
  have hn2 : ∀ i, S2 i → ¬ (w0.heap.size ≤ i ∧ i < w1.heap.size) := fun i hi hg => by have := h2.inw i hi; omega
  have o4 : Off (fun i => w0.heap.size ≤ i ∧ i < w1.heap.size) w3 w4 := ⟨s4.b0, fun i _ hi => s4.far i fun e => hi ⟨e.1, e.2.1⟩⟩
  have F14 := F13.off o4 hn1
  have F24 := F23.off o4 hn2
  have O4 := O3.cat o4 (fun i hi => .inr (by omega))
  obtain ⟨e1, e2⟩ := hx3.afterV s4
  clear F13 F23 O3 s4 X3
  go_wp2_with fail
  refine (spoilEvents_in x.EA x.en x.ecap x.evs w0.heap.size w1.heap.size w4 e1 e2 hx3.fits.2.1).mono ?_
  rintro e w5 ⟨⟨u5', rfl⟩, s5⟩
  have o5 : Off (fun i => w0.heap.size ≤ i ∧ i < w1.heap.size) w4 w5 := ⟨s5.b0, fun i _ hi => s5.far i hi⟩
  have F15 := F14.off o5 hn1
  have F25 := F24.off o5 hn2
  have O5 := O4.cat o5 (fun i hi => .inr (by omega))
  clear F14 F24 O4 s5 e1 e2
  go_wp2
  go_ret
  exact ⟨rfl, S1, S2, ms1, ms2, F15, F25, hk, hms, hdis, fun i hi => .inl hi, fun i hi => .inl hi, O5⟩

set_option maxHeartbeats 1600000 in
set_option maxRecDepth 100000 in
theorem does_between (w : World) (S1 S2 : Nat → Prop) (g1 g2 : Nat) (ms1 ms2 : List Mg) (a : Ac) (h1 : Fli w S1 g1 ms1) (h2 : Fli w S2 g2 ms2) (hk : ms1.map mkey = ms2.map mkey) (hms : ms1.length ≤ 1024) (hdis : ∀ i, S1 i → ¬ S2 i)
    (hI : -9223372036854775808 ≤ a.kind ∧ a.kind ≤ 9223372036854775807) (hz : a.kind % 5 = 4) :
    Calls Try.prog 29 #[.pointer (some ⟨g1, 0, none⟩), .pointer (some ⟨g2, 0, none⟩), .agg (av a).toArray] w fun r w' => r = .returned (.bool true) ∧ Both w w' S1 S2 g1 g2 := by
  obtain ⟨w0, hw0⟩ : ∃ w0, w0 = w.alloc (.cells (av a).toArray 50) := ⟨_, rfl⟩
  have b0 : Below w.heap.size w w0 := by rw [hw0]; exact (Below.refl _ _).alloc (Nat.le_refl _) _
  have z0 : w0.heap.size = w.heap.size + 1 := by rw [hw0]; simp
  have A0 : BoxV w0 w.heap.size (av a) 50 := by rw [hw0]; exact heap_alloc_new w _
  have c0 := A0.cell 0 _ rfl
  go_enter Try.func29, Try.ntmps29
  simp only [av] at hw0 ⊢
  rw [hw0] at c0
  go_wp2_with fail
  rw [← hw0] at c0 ⊢
  clear hw0
  refine (pick_pos a.kind 5 w0 (by decide) (by decide) hI.1 hI.2).mono ?_
  rintro e _ ⟨he, rfl⟩
  rw [hz] at he
  obtain rfl := he
  obtain ⟨z, hzz⟩ := exists_first a.i a.k ms1
  obtain ⟨ι, W, hne, hW0, hWB, hWall⟩ := family w0.heap.size w0
  have c1 : ∀ m, (W m).cell? ⟨w.heap.size, 1, none⟩ = some (.int .i64 a.i) := fun m => (A0.kept ((hWB m).block _ (by omega))).cell 1 _ rfl
  have c2 : ∀ m, (W m).cell? ⟨w.heap.size, 2, none⟩ = some (.int .i64 a.k) := fun m => (A0.kept ((hWB m).block _ (by omega))).cell 2 _ rfl
  have FF1 := Lib.hid fun m => (h1.below b0).below (hWB m)
  have FF2 := Lib.hid fun m => (h2.below b0).below (hWB m)
  have HWB := Lib.hid hWB
  have HWall := Lib.hid hWall
  have HZ := Lib.hid hzz
  have dzz : (z == z) = true := by simp
  clear c0 hWB hWall hzz hz
  go_upto_region 14 with fail
  refine wp_region_family (by kernel_rfl) (by kernel_rfl) hW0 ?_
  repeat (go_big_quiet_step ((first
    | (go_at_call 37; exact calls_family (between_fix _ S1 g1 ms1 (FF1.out _) a.i a.k z ms1 rfl HZ.out) HWB.out (Nat.le_refl _) HWall.out)
    | (go_at_call 49; exact calls_family (refBetween_fix _ S2 g2 ms2 (FF2.out _) a.i a.k z ms1 hk.symm HZ.out) HWB.out (Nat.le_refl _) HWall.out))))
  refine wpQuiet_nil ?_
  rintro _ ⟨nq, rfl⟩
  have F13 := FF1.out nq
  have F23 := FF2.out nq
  have O3 : Off (fun i => S1 i ∨ S2 i) w (W nq) := (Off.of b0).low (HWB.out nq)
  clear c1 c2 hne hW0
  go_wp2
  go_ret
  exact ⟨rfl, S1, S2, ms1, ms2, F13, F23, hk, hms, hdis, fun i hi => .inl hi, fun i hi => .inl hi, O3⟩
end Go.Proofs.Ytcidmlpjobdakaa
