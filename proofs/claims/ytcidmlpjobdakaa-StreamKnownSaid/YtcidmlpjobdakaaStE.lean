/- The chapter's own entries: entry, works (14). -/
import Derived.Test.YtcidmlpjobdakaaStC
namespace Go.Proofs.Ytcidmlpjobdakaa
set_option linter.unusedSimpArgs false
set_option linter.unusedVariables false
set_option linter.unnecessarySimpa false
open Go.RowKit

/-- What 'entry' lays. -/
def enOf (a s : Int) : En := ⟨⟨0, s, 0, none, 0, 0, [], 0, a, 0, 0, 0, 0⟩, false, 0, 0⟩

set_option maxHeartbeats 800000 in
set_option maxRecDepth 100000 in
theorem entry_any (a s : Int) (w : World) :
    Calls Try.prog 24 #[.int .i64 a, .int .i64 s] w fun e w' => e = .returned (.agg (nc (enOf a s)).toArray) ∧ Below w.heap.size w w' := by
  have hz : (zeroValue 39).run Try.prog w = .ok (.agg (nc zeroEn).toArray) w := rfl
  simp only [nc, zeroEn, enOf] at *
  go_enter Try.func24, Try.ntmps24
  go_wp2
  refine bodyPost_ret (v := .agg (nc (enOf a s)).toArray) ?_ rfl ⟨rfl, (Below.refl _ _).alloc (Nat.le_refl _) _⟩
  simp [results, Try.results24, go_sem, nc, enOf]

theorem en0 {r : En} (h0 : r.e.A = none) (h1 : r.e.n = 0) (h2 : r.e.c = 0) (h3 : r.e.deps = []) (w : World) (P : Nat → Prop) : EvR w P r.e := ⟨by rw [h1, h3]; exact RN.nil _ _ _, by omega, by omega, fun _ => h2⟩
/-- The chapter's four entries; as they are when two are void, one by another event. -/
def four : List En := [enOf 5 1, enOf 6 2, enOf 5 3, enOf 5 4]
def four' : List En := [enOf 5 1, { enOf 6 2 with void := true }, enOf 5 3, { enOf 5 4 with void := true, y1 := 1 }]
theorem fours_set : (((four.flatMap nc).set 23 (.bool true)).set 49 (.bool true)).set 51 (.int .i64 1) = four'.flatMap nc := by kernel_rfl
theorem four_ok (w : World) (P : Nat → Prop) : ∀ r ∈ four, EvR w P r.e ∧ r.e.n ≤ 1099511627000 := by
  intro r hr
  simp [four] at hr
  rcases hr with rfl | rfl | rfl | rfl <;> exact ⟨en0 rfl rfl rfl rfl w P, by simp [enOf]⟩
theorem four_ok' (w : World) (P : Nat → Prop) : ∀ r ∈ four', EvR w P r.e ∧ r.e.n ≤ 1099511627000 := by
  intro r hr
  simp [four'] at hr
  rcases hr with rfl | rfl | rfl | rfl <;> exact ⟨en0 rfl rfl rfl rfl w P, by simp [enOf]⟩
theorem key_one {ns : List En} {k} (h : ns.map nkey = [k]) : ∃ x, ns = [x] ∧ nkey x = k := by
  rcases ns with _ | ⟨x, _ | ⟨y, r⟩⟩
  · cases h
  · rw [List.map_cons, List.map_nil] at h
    exact ⟨x, rfl, (List.cons.inj h).1⟩
  · rw [List.map_cons, List.map_cons] at h
    cases (List.cons.inj h).2
/-- What Read and Voided hand back, set to one entry: its number. -/
theorem fresh_one {w : World} {n₀ : Nat} {v : Value} {ns : List En} {k : En} (h : Fresh w n₀ v ns) (hk : ns.map nkey = [nkey k]) :
    ∃ g c, v = .slice (some ⟨g, 0, none⟩) 1 c ∧ n₀ ≤ g ∧ g < w.heap.size ∧ w.cell? ⟨g, 1, none⟩ = some (.int .i64 k.e.a1) := by
  obtain ⟨x, rfl, hx⟩ := key_one hk
  obtain ⟨g, c, rfl, _, _, h1, h2⟩ := own_at h.row Nat.one_pos
  have hr := Reads.of_own h.row
  refine ⟨g, c, rfl, h1, h2, ?_⟩
  have := Reads.cell hr (b := g) (off := 0) rfl (j := 1) (u := .int .i64 x.e.a1) rfl
  rw [Nat.zero_add] at this
  rw [this]
  simp only [nkey, ekey, Prod.mk.injEq] at hx
  rw [hx.1.1.2.1]

set_option maxHeartbeats 1600000 in
set_option maxRecDepth 100000 in
theorem works14 (w : World) : Calls Try.prog 15 #[] w fun r w' => r = .returned (.bool true) ∧ Below w.heap.size w w' := by
  go_enter Try.func15, Try.ntmps15
  go_wp2_with fail
  refine (entry_any 5 1 w).mono ?_
  rintro e w1 ⟨rfl, b1⟩
  go_wp2_with fail
  refine (entry_any 6 2 w1).mono ?_
  rintro e w2 ⟨rfl, b2⟩
  have b2 := next_below b1 b2
  clear b1
  go_wp2_with fail
  refine (entry_any 5 3 w2).mono ?_
  rintro e w3 ⟨rfl, b3⟩
  have b3 := next_below b2 b3
  clear b2
  go_wp2_with fail
  refine (entry_any 5 4 w3).mono ?_
  rintro e w4 ⟨rfl, b4⟩
  have b4 := next_below b3 b4
  clear b3
  simp only [nc, enOf]
  go_upto_region 2 with fail
  obtain ⟨w5, hw5⟩ : ∃ W, W = w4.alloc (.cells (four.flatMap nc).toArray 39) := ⟨_, rfl⟩
  have R5 : w5.ownsRow w4.heap.size 39 13 (.slice (some ⟨w4.heap.size, 0, none⟩) 4 4) 4 (four.flatMap nc) := by
    rw [hw5]
    exact ⟨by kernel_rfl, .inr ⟨w4.heap.size, 4, (four.flatMap nc).toArray, rfl, Nat.le_refl _, World.alloc_heap_new w4 _, Nat.le_refl _, by decide, by kernel_rfl, by rw [List.toList_toArray]; exact List.take_of_length_le (Nat.le_of_eq (by kernel_rfl))⟩⟩
  have b5 : Below w.heap.size w w5 := by rw [hw5]; exact b4.alloc b4.size _
  have z5 : w5.heap.size = w4.heap.size + 1 := by rw [hw5]; simp
  have hgB := b4.size
  simp only [four, nc, enOf, List.flatMap_cons, List.flatMap_nil, List.cons_append, List.nil_append, List.append_nil] at hw5
  rw [← hw5]
  obtain ⟨g, hg⟩ : ∃ g, g = w4.heap.size := ⟨_, rfl⟩
  rw [← hg] at R5 z5 hgB ⊢
  clear hw5 hg b4
  have L5 : RL w5 (fun i => g ≤ i ∧ i < w5.heap.size) (some ⟨g, 0, none⟩) 4 four := ⟨own_reads R5, fun r hr => (four_ok w5 _ r hr).1⟩
  have hf4 : ∀ r ∈ four, r.e.n ≤ 1099511627000 := fun r hr => (four_ok w5 (fun _ => True) r hr).2
  go_wp2_with fail
  refine (strRead_any _ _ 4 4 four 0 5 1 1 w5 L5 (fun i hi => hi.2) (by decide) hf4).mono ?_
  rintro e w6 ⟨va, na, he, hka, Fa, b6⟩
  rw [show (decide (Int.toNat 1 + Int.toNat 1 < (four.filter (readIs 0 5)).length)) = true from by decide] at he
  obtain rfl := he
  obtain ⟨ga, ca, rfl, hga, hga2, cA⟩ := fresh_one (k := enOf 5 3) Fa (hka.trans (by kernel_rfl))
  have L6 := (L5.keep fun i hi => b6.block i hi.2).more (Q := fun i => i < w6.heap.size) fun i hi => Nat.lt_of_lt_of_le hi.2 b6.size
  have R6 := own_below R5 b6
  have k6 := next_below b5 b6
  have z6 := b6.size
  clear Fa hka L5 R5 b5 b6
  go_wp2_with fail
  refine (strRead_any _ _ 4 4 four 0 5 2 9 w6 L6 (fun i hi => hi) (by decide) hf4).mono ?_
  rintro e w7 ⟨vb, nb, he, hkb, Fb, b7⟩
  rw [show (decide (Int.toNat 2 + Int.toNat 9 < (four.filter (readIs 0 5)).length)) = false from by decide] at he
  obtain rfl := he
  obtain ⟨gb, cb, rfl, hgb, hgb2, cB⟩ := fresh_one (k := enOf 5 4) Fb (hkb.trans (by kernel_rfl))
  have L7 := (L6.keep fun i hi => b7.block i hi).more (Q := fun i => i < w7.heap.size) fun i hi => Nat.lt_of_lt_of_le hi b7.size
  have R7 := own_below R6 b7
  have cA7 := (b7.cell (p := ⟨ga, 1, none⟩) hga2).trans cA
  have k7 := next_below k6 b7
  have z7 := b7.size
  clear Fb hkb L6 R6 k6 b7 cA
  go_wp2_with fail
  refine (strRead_any _ _ 4 4 four 0 6 (-4) 0 w7 L7 (fun i hi => hi) (by decide) hf4).mono ?_
  rintro e w8 ⟨vc, n3, he, hkc, Fc, b8⟩
  rw [show (decide (Int.toNat (-4) + Int.toNat 0 < (four.filter (readIs 0 6)).length)) = true from by decide] at he
  obtain rfl := he
  obtain ⟨Ac, cc, rfl, _, _, _⟩ := own_form Fc.row
  have hn3 : n3.length = 0 := by
    have := congrArg List.length hkc
    rw [List.length_map] at this
    rw [this]; rfl
  rw [hn3]
  have R8 := own_below R7 b8
  have cA8 := (b8.cell (p := ⟨ga, 1, none⟩) (by show ga < _; omega)).trans cA7
  have cB8 := (b8.cell (p := ⟨gb, 1, none⟩) (by show gb < _; omega)).trans cB
  have k8 := next_below k7 b8
  have z8 := b8.size
  clear Fc hkc L7 R7 k7 b8 cA7 cB hn3
  have t8 := Reads.cell (Reads.of_own R8) (b := g) (off := 0) rfl (j := 23) (u := .bool false) rfl
  have f8 := own_froz R8 23
  rw [Nat.zero_add] at t8
  go_upto_region 6 with fail
  obtain ⟨w9, hw9⟩ : ∃ W, W = w8.setCell ⟨g, 23, none⟩ (.bool true) := ⟨_, rfl⟩
  have R9 := own_setv R8 (k := 23) (.bool true)
  rw [← hw9] at R9 ⊢
  have t9 := Reads.cell (Reads.of_own R9) (b := g) (off := 0) rfl (j := 49) (u := .bool false) rfl
  have f9 := own_froz R9 49
  rw [Nat.zero_add] at t9
  have hAg : g ≠ ga := by omega
  have hBg : g ≠ gb := by omega
  have cA9 : w9.cell? ⟨ga, 1, none⟩ = some (.int .i64 (enOf 5 3).e.a1) := by rw [hw9]; exact (World.cell?_setCell_far _ ⟨g, 23, none⟩ ⟨ga, 1, none⟩ _ hAg).trans cA8
  have cB9 : w9.cell? ⟨gb, 1, none⟩ = some (.int .i64 (enOf 5 4).e.a1) := by rw [hw9]; exact (World.cell?_setCell_far _ ⟨g, 23, none⟩ ⟨gb, 1, none⟩ _ hBg).trans cB8
  have k9 : Below w.heap.size w w9 := by rw [hw9]; exact k8.setCell (p := ⟨g, 23, none⟩) hgB _
  have z9 : w9.heap.size = w8.heap.size := by rw [hw9]; simp
  clear hw9 R8 t8 f8 cA8 cB8 k8
  go_upto_region 7 with fail
  obtain ⟨wx, hwx⟩ : ∃ W, W = w9.setCell ⟨g, 49, none⟩ (.bool true) := ⟨_, rfl⟩
  have Rx := own_setv R9 (k := 49) (.bool true)
  rw [← hwx] at Rx ⊢
  have tx := Reads.cell (Reads.of_own Rx) (b := g) (off := 0) rfl (j := 51) (u := .int .i64 0) rfl
  have fx := own_froz Rx 51
  rw [Nat.zero_add] at tx
  have cAx : wx.cell? ⟨ga, 1, none⟩ = some (.int .i64 (enOf 5 3).e.a1) := by rw [hwx]; exact (World.cell?_setCell_far _ ⟨g, 49, none⟩ ⟨ga, 1, none⟩ _ hAg).trans cA9
  have cBx : wx.cell? ⟨gb, 1, none⟩ = some (.int .i64 (enOf 5 4).e.a1) := by rw [hwx]; exact (World.cell?_setCell_far _ ⟨g, 49, none⟩ ⟨gb, 1, none⟩ _ hBg).trans cB9
  have kx : Below w.heap.size w wx := by rw [hwx]; exact k9.setCell (p := ⟨g, 49, none⟩) hgB _
  have zx : wx.heap.size = w9.heap.size := by rw [hwx]; simp
  clear hwx R9 t9 f9 cA9 cB9 k9
  go_upto_region 8 with fail
  obtain ⟨wy, hwy⟩ : ∃ W, W = wx.setCell ⟨g, 51, none⟩ (.int .i64 1) := ⟨_, rfl⟩
  have Ry := own_setv Rx (k := 51) (.int .i64 1)
  rw [fours_set] at Ry
  rw [← hwy] at Ry ⊢
  have cAy : wy.cell? ⟨ga, 1, none⟩ = some (.int .i64 (enOf 5 3).e.a1) := by rw [hwy]; exact (World.cell?_setCell_far _ ⟨g, 51, none⟩ ⟨ga, 1, none⟩ _ hAg).trans cAx
  have cBy : wy.cell? ⟨gb, 1, none⟩ = some (.int .i64 (enOf 5 4).e.a1) := by rw [hwy]; exact (World.cell?_setCell_far _ ⟨g, 51, none⟩ ⟨gb, 1, none⟩ _ hBg).trans cBx
  have ky : Below w.heap.size w wy := by rw [hwy]; exact kx.setCell (p := ⟨g, 51, none⟩) hgB _
  have zy : wy.heap.size = wx.heap.size := by rw [hwy]; simp
  clear hwy Rx tx fx cAx cBx kx
  have Ly : RL wy (fun i => g ≤ i ∧ i < wy.heap.size) (some ⟨g, 0, none⟩) 4 four' := ⟨own_reads Ry, fun r hr => (four_ok' wy _ r hr).1⟩
  have hfy : ∀ r ∈ four', r.e.n ≤ 1099511627000 := fun r hr => (four_ok' wy (fun _ => True) r hr).2
  go_wp2_with fail
  refine (strVoided_any _ _ 4 4 four' wy Ly (fun i hi => hi.2) (by decide) hfy).mono ?_
  rintro e wz ⟨vd, nd, rfl, hkd, Fd, bz⟩
  obtain ⟨gd, cd, rfl, hgd, hgd2, cD⟩ := fresh_one (k := { enOf 5 4 with void := true, y1 := 1 }) Fd (hkd.trans (by kernel_rfl))
  have cAz := (bz.cell (p := ⟨ga, 1, none⟩) (by show ga < _; omega)).trans cAy
  have cBz := (bz.cell (p := ⟨gb, 1, none⟩) (by show gb < _; omega)).trans cBy
  have kz := next_below ky bz
  simp only [enOf] at cAz cBz cD
  clear Fd hkd Ly Ry ky bz cAy cBy hfy hf4
  go_wp2
  go_ret
  exact ⟨rfl, kz⟩
end Go.Proofs.Ytcidmlpjobdakaa
