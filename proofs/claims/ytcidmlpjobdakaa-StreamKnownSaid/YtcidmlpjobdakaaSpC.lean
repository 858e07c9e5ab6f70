/- The document's copy of an entry; CopyEntries; Long. -/
import Derived.Test.YtcidmlpjobdakaaSpB
namespace Go.Proofs.Ytcidmlpjobdakaa
set_option linter.unusedSimpArgs false
set_option linter.unusedVariables false
set_option linter.unnecessarySimpa false
open Go.RowKit

set_option maxHeartbeats 1600000 in
set_option maxRecDepth 100000 in
theorem refCopyOf_any (r : En) (P : Nat → Prop) (w : World) (h : EvR w P r.e) (hP : ∀ i, P i → i < w.heap.size) (hf : r.e.n ≤ 1099511627000) :
    Calls Try.prog 42 #[.agg (nc r).toArray] w fun e w' => ∃ r', e = .returned (.agg (nc r').toArray) ∧ nkey r' = nkey r ∧ EvR w' (New w w') r'.e ∧ r'.e.n = r.e.n ∧ Below w.heap.size w w' := by
  obtain ⟨⟨a0, a1, a2, A, n, c, ds, b0, b1, b2, b3, b4, b5⟩, void, y0, y1⟩ := r
  obtain ⟨hv, hv1, hv2, hv3⟩ := h
  simp only at hv hv1 hv2 hv3 hf
  obtain ⟨W0, hW0⟩ : ∃ W0, W0 = (w.alloc (.cells (nc ⟨⟨a0, a1, a2, A, n, c, ds, b0, b1, b2, b3, b4, b5⟩, void, y0, y1⟩).toArray 39)).alloc (.cells (nc zeroEn).toArray 39) := ⟨_, rfl⟩
  have k0 : Below w.heap.size w W0 := by rw [hW0]; exact ((Below.refl _ _).alloc (Nat.le_refl _) _).alloc (by simp) _
  have z0 : W0.heap.size = w.heap.size + 2 := by rw [hW0]; simp
  have bx : ∀ j u, (nc ⟨⟨a0, a1, a2, A, n, c, ds, b0, b1, b2, b3, b4, b5⟩, void, y0, y1⟩)[j]? = some u → W0.cell? ⟨w.heap.size, j, none⟩ = some u := by
    intro j u hu
    rw [hW0, World.cell?_alloc_past _ _ _ (by simp), World.cell?_alloc_at _ _ _ _ rfl]
    simpa using hu
  have rx : ∀ j u, (nc zeroEn)[j]? = some u → W0.cell? ⟨w.heap.size + 1, j, none⟩ = some u := by
    intro j u hu
    rw [hW0, World.cell?_alloc_at _ _ _ _ (by simp)]
    simpa using hu
  have fx : ∀ g j, g = w.heap.size ∨ g = w.heap.size + 1 → W0.frozen? ⟨g, j, none⟩ = false := by
    intro g j hg
    rw [hW0]
    rcases hg with rfl | rfl
    · rw [World.frozen?_alloc_past _ _ _ (by simp)]; exact World.frozen?_alloc_at _ _ _ j rfl
    · exact World.frozen?_alloc_at _ _ _ j (by simp)
  have hv0 : RN W0 P A n ds := hv.keep fun i hi => k0.block i (hP i hi)
  have hP0 : ∀ i, P i → i < W0.heap.size := fun i hi => Nat.lt_of_lt_of_le (hP i hi) k0.size
  go_enter Try.func42, Try.ntmps42
  simp only [nc, zeroEn] at hW0 bx rx ⊢
  go_wp2
  rw [← hW0]
  have HW0 := Lib.hid hW0
  have BX := Lib.hid bx
  have RX := Lib.hid rx
  have FX := Lib.hid fx
  clear hW0 bx rx fx
  go_loopw [3, 4] (fun v i wr => ∃ k : Nat, k ≤ n ∧ i = .int .i64 k ∧ wr.ownsRow W0.heap.size 3 1 v k (ints (ds.take k)) ∧ Below W0.heap.size W0 wr) (fun _ i _ => n - (intOf i).toNat)
  case atStart => exact ⟨0, by omega, rfl, World.ownsRow_nil _ _ _ _, Below.refl _ _⟩
  case round =>
  obtain ⟨k, hk, rfl, hown, hB⟩ := hrel
  have bq3 := (hB.cell (p := ⟨w.heap.size, 3, none⟩) (by show w.heap.size < _; omega)).trans (BX.out 3 _ rfl)
  have hk0 : (0 : Int) ≤ (k : Int) := by omega
  by_cases hlt : k < n
  · obtain ⟨b, off, x, rfl, hPb, hx, hc⟩ := hv0.cell hlt
    have hcr := (hB.cell (p := ⟨b, off + k, none⟩) (hP0 b hPb)).trans hc
    have HX := Lib.hid (take_succ_get ds k x hx)
    have hsz := hB.size
    have hki : (k : Int) < (n : Int) := by omega
    clear hx hc
    go_wp2_with (at_builtin; refine wpList_app1 wr #[.int .i64 x] rfl _ _ 31 rfl W0.heap.size 3 (.int .i64 0) 1 8 Try.underlying31 infoInt rfl (by decide) _ k _ hown rfl rfl rfl (one1 _ rfl) (by omega) (by omega) hsz ?_; intro g cap w1 hown1 _ hb1 _ _)
    have R : w1.ownsRow W0.heap.size 3 1 (.slice (some ⟨g, 0, none⟩) (k + 1) cap) (k + 1) (ints (ds.take (k + 1))) := by
      rw [HX.out, ints_append]; exact hown1
    have hB1 := hB.trans hb1
    clear hown1 hB hb1 hown hcr bq3
    go_wp2
    go_roundw
    case rel => exact ⟨k + 1, by omega, by go_num, R, hB1⟩
    case measure => simp [intOf]; omega
  obtain rfl : n = k := by omega
  
  have bx := BX.out
  have rx := RX.out
  have fx := FX.out
  rw [List.take_of_length_le (Nat.le_of_eq hv.len)] at hown
  obtain ⟨w1, hw1⟩ : ∃ w1, w1 = wr := ⟨_, rfl⟩
  rw [← hw1] at hown hB bq3 ⊢
  clear hw1
  have bb1 := hB
  have o1 := hown
  obtain ⟨V1, d1, rfl, hd1, hd1', _⟩ := own_form o1
  clear hown hB bq3
  have zz := bb1.size
  have p3 := (bb1.cell (p := ⟨w.heap.size, 3, none⟩) (by show w.heap.size < _; omega)).trans (bx 3 _ rfl)
  have f3 := (froz_below bb1 ⟨w.heap.size, 3, none⟩ (by show w.heap.size < _; omega)).trans (fx _ 3 (.inl rfl))
  obtain ⟨w2, hw2⟩ : ∃ W, W = w1.setCell ⟨w.heap.size, 3, none⟩ (.slice V1 n d1) := ⟨_, rfl⟩
  have z2 : w2.heap.size = w1.heap.size := by rw [hw2]; simp
  have k2 : Below w.heap.size w w2 := by rw [hw2]; exact (next_below k0 bb1).setCell (p := ⟨w.heap.size, 3, none⟩) (Nat.le_refl _) _
  have o2 : w2.ownsRow W0.heap.size 3 1 (.slice V1 n d1) n (ints ds) := by rw [hw2]; exact ownsRow_setCell_below o1 (a := ⟨w.heap.size, 3, none⟩) (by show w.heap.size < _; omega) _
  obtain ⟨vs, hvs⟩ : ∃ vs : List Value, vs = [.int .i64 a0, .int .i64 a1, .int .i64 a2, .slice V1 n d1, .int .i64 b0, .int .i64 b1, .int .i64 b2, .int .i64 b3, .int .i64 b4, .int .i64 b5, .bool void, .int .i64 y0, .int .i64 y1] := ⟨_, rfl⟩
  have hvl : vs.length = 13 := by rw [hvs]; rfl
  have c2 : ∀ j u, vs[j]? = some u → w2.cell? ⟨w.heap.size, j, none⟩ = some u := by
    intro j u hu
    rw [hw2]
    by_cases hj : j = 3
    · subst hj
      rw [hvs] at hu
      simp at hu
      subst hu
      exact World.cell?_setCell_same _ _ _ p3
    · refine (cell_other (fun e => hj e.symm)).trans ?_
      refine (bb1.cell (p := ⟨w.heap.size, j, none⟩) (by show w.heap.size < _; omega)).trans (bx j u ?_)
      have hl : j < 13 := by have := (List.getElem?_eq_some_iff.1 hu).1; omega
      rw [hvs] at hu
      match j, hl, hj with
      | 0, _, _ => exact hu
      | 1, _, _ => exact hu
      | 2, _, _ => exact hu
      | 3, _, hj => exact absurd rfl hj
      | 4, _, _ => exact hu
      | 5, _, _ => exact hu
      | 6, _, _ => exact hu
      | 7, _, _ => exact hu
      | 8, _, _ => exact hu
      | 9, _, _ => exact hu
      | 10, _, _ => exact hu
      | 11, _, _ => exact hu
      | 12, _, _ => exact hu
  have r2' : ∀ j u, [Value.int .i64 0, .int .i64 0, .int .i64 0, .slice none 0 0, .int .i64 0, .int .i64 0, .int .i64 0, .int .i64 0, .int .i64 0, .int .i64 0, .bool false, .int .i64 0, .int .i64 0][j]? = some u → w2.cell? ⟨w.heap.size + 1, j, none⟩ = some u := by
    intro j u hu
    rw [hw2]
    exact (World.cell?_setCell_far _ ⟨w.heap.size, 3, none⟩ ⟨w.heap.size + 1, j, none⟩ _ (by simp)).trans ((bb1.cell (p := ⟨w.heap.size + 1, j, none⟩) (by show w.heap.size + 1 < _; omega)).trans (rx j u hu))
  have r2 : ∀ j, j < 13 → (w2.cell? ⟨w.heap.size + 1, j, none⟩).isSome = true := by
    intro j hj
    obtain ⟨u, hu⟩ : ∃ u, [Value.int .i64 0, .int .i64 0, .int .i64 0, .slice none 0 0, .int .i64 0, .int .i64 0, .int .i64 0, .int .i64 0, .int .i64 0, .int .i64 0, .bool false, .int .i64 0, .int .i64 0][j]? = some u := ⟨_, List.getElem?_eq_getElem (by simpa using hj)⟩
    rw [r2' j u hu]; rfl
  have f2 : ∀ j, w2.frozen? ⟨w.heap.size + 1, j, none⟩ = false := by
    intro j
    rw [hw2, World.frozen?_setCell]
    exact (froz_below bb1 ⟨w.heap.size + 1, j, none⟩ (by show w.heap.size + 1 < _; omega)).trans (fx _ j (.inr rfl))
  obtain ⟨w3, hw3⟩ : ∃ W, W = w2.setCells (w.heap.size + 1) 0 vs := ⟨_, rfl⟩
  have x3 : ∀ j u, vs[j]? = some u → w3.cell? ⟨w.heap.size + 1, j, none⟩ = some u := fun j u hu => by rw [hw3]; exact set13_cells vs (fun j hj => r2 j (by omega)) j u hu
  have k3 : Below w.heap.size w w3 := ⟨by rw [hw3]; exact (below0_setCells _ _ _ _).os.trans k2.os, by rw [hw3]; exact (below0_setCells _ _ _ _).tape.trans k2.tape, by rw [hw3]; exact (below0_setCells _ _ _ _).output.trans k2.output, by rw [hw3, size_setCells]; exact k2.size, fun i hi => by rw [hw3, heap_setCells_far _ _ _ _ i (by omega)]; exact k2.block i hi⟩
  have hev : EvR w3 (New w w3) ⟨a0, a1, a2, V1, n, d1, ds, b0, b1, b2, b3, b4, b5⟩ := by
    refine ⟨?_, hd1, hd1', own_nil o2⟩
    have hh : ∀ i, W0.heap.size ≤ i → w3.heap[i]? = w2.heap[i]? := fun i hi => by rw [hw3, heap_setCells_far _ _ _ _ i (by omega)]
    have h1 : RN w2 _ V1 n ds := own_soft o2
    refine (h1.keep fun i hi => hh i hi.1).more fun i hi => ⟨by omega, by rw [hw3, size_setCells]; exact hi.2.1, hi.2.2.keep (hh i hi.1)⟩
  have y0' := x3 0 _ (by rw [hvs]; rfl)
  have y1' := x3 1 _ (by rw [hvs]; rfl)
  have y2' := x3 2 _ (by rw [hvs]; rfl)
  have y3' := x3 3 _ (by rw [hvs]; rfl)
  have y4' := x3 4 _ (by rw [hvs]; rfl)
  have y5' := x3 5 _ (by rw [hvs]; rfl)
  have y6' := x3 6 _ (by rw [hvs]; rfl)
  have y7' := x3 7 _ (by rw [hvs]; rfl)
  have y8' := x3 8 _ (by rw [hvs]; rfl)
  have y9' := x3 9 _ (by rw [hvs]; rfl)
  have y10' := x3 10 _ (by rw [hvs]; rfl)
  have y11' := x3 11 _ (by rw [hvs]; rfl)
  have y12' := x3 12 _ (by rw [hvs]; rfl)
  have q0 := c2 0 _ (by rw [hvs]; rfl)
  have q1 := c2 1 _ (by rw [hvs]; rfl)
  have q2 := c2 2 _ (by rw [hvs]; rfl)
  have q3 := c2 3 _ (by rw [hvs]; rfl)
  have q4 := c2 4 _ (by rw [hvs]; rfl)
  have q5 := c2 5 _ (by rw [hvs]; rfl)
  have q6 := c2 6 _ (by rw [hvs]; rfl)
  have q7 := c2 7 _ (by rw [hvs]; rfl)
  have q8 := c2 8 _ (by rw [hvs]; rfl)
  have q9 := c2 9 _ (by rw [hvs]; rfl)
  have q10 := c2 10 _ (by rw [hvs]; rfl)
  have q11 := c2 11 _ (by rw [hvs]; rfl)
  have q12 := c2 12 _ (by rw [hvs]; rfl)
  have t0 := r2' 0 _ rfl
  have g0 := f2 0
  have t1 := r2' 1 _ rfl
  have g1 := f2 1
  have t2 := r2' 2 _ rfl
  have g2 := f2 2
  have t3 := r2' 3 _ rfl
  have g3 := f2 3
  have t4 := r2' 4 _ rfl
  have g4 := f2 4
  have t5 := r2' 5 _ rfl
  have g5 := f2 5
  have t6 := r2' 6 _ rfl
  have g6 := f2 6
  have t7 := r2' 7 _ rfl
  have g7 := f2 7
  have t8 := r2' 8 _ rfl
  have g8 := f2 8
  have t9 := r2' 9 _ rfl
  have g9 := f2 9
  have t10 := r2' 10 _ rfl
  have g10 := f2 10
  have t11 := r2' 11 _ rfl
  have g11 := f2 11
  have t12 := r2' 12 _ rfl
  have g12 := f2 12
  rw [hw3, hvs] at y0' y1' y2' y3' y4' y5' y6' y7' y8' y9' y10' y11' y12'
  simp only [World.setCells, Nat.zero_add, Nat.reduceAdd] at y0' y1' y2' y3' y4' y5' y6' y7' y8' y9' y10' y11' y12'
  have HW2 := Lib.hid hw2
  have HW3 := Lib.hid hw3
  have HVS := Lib.hid hvs
  have HEV := Lib.hid hev
  have R2 := Lib.hid r2
  have F2 := Lib.hid f2
  clear bx rx fx hv0 hw2 hw3 hvs hev r2 r2' f2 c2 x3 o1 o2 bb1 hv k2
  go_upto_region 7 with fail
  rw [← HW2.out]
  go_wp2
  refine bodyPost_ret (v := .agg (nc ⟨⟨a0, a1, a2, V1, n, d1, ds, b0, b1, b2, b3, b4, b5⟩, void, y0, y1⟩).toArray) ?_ rfl ?_
  · simp [results, Try.results42, go_sem, nc, y0', y1', y2', y3', y4', y5', y6', y7', y8', y9', y10', y11', y12']
  · have he := HW3.out
    rw [HVS.out] at he
    simp only [World.setCells, Nat.zero_add, Nat.reduceAdd] at he
    rw [← he]
    exact ⟨_, rfl, rfl, HEV.out, rfl, k3⟩

set_option maxHeartbeats 1600000 in
set_option maxRecDepth 100000 in
theorem copyEntries_any (P : Nat → Prop) (A : Option Addr) (n c : Nat) (l : List En) (w : World) (hb : RL w P A n l) (hP : ∀ i, P i → i < w.heap.size) (hn : n ≤ 1000000000) (hf : ∀ r ∈ l, r.e.n ≤ 1099511627000) :
    Calls Try.prog 16 #[.slice A n c] w fun e w' => ∃ v ns, e = .returned v ∧ ns.map nkey = l.map nkey ∧ Fresh w' w.heap.size v ns ∧ Below w.heap.size w w' := by
  go_enter Try.func16, Try.ntmps16
  go_wp2
  go_loopw [3, 4] (fun v i wr => ∃ (k : Nat) (ns : List En), k ≤ n ∧ i = .int .i64 k ∧ ns.map nkey = (l.take k).map nkey ∧ Fresh wr w.heap.size v ns ∧ Below w.heap.size w wr) (fun _ i _ => n - (intOf i).toNat)
  case atStart => exact ⟨0, [], by omega, rfl, rfl, Fresh.nil _ _, Below.refl _ _⟩
  case round =>
    obtain ⟨k, ns, hk, rfl, hkey, hF, hB⟩ := hrel
    have hnl : ns.length = k := by
      have := congrArg List.length hkey
      simp only [List.length_map, List.length_take] at this
      have := hb.len
      omega
    by_cases hlt : k < n
    · obtain ⟨b, off, r, rfl, hPb, hr, er, hc⟩ := (hb.keep fun i hi => hB.block i (hP i hi)).cell hlt
      have hki : (k : Int) < (n : Int) := by omega
      have hk0 : (0 : Int) ≤ (k : Int) := by omega
      have hsz := hB.size
      have hfr := hf r (List.mem_of_getElem? hr)
      have HK := Lib.hid (show (ns.map nkey ++ [nkey r]) = (l.take (k + 1)).map nkey from by rw [take_succ_get l k r hr, List.map_append, hkey]; rfl)
      obtain ⟨⟨a0, a1, a2, A', n', c', ds, b0, b1, b2, b3, b4, b5⟩, void, u0, u1⟩ := r
      have x0 := hc 0 _ rfl
      have x1 := hc 1 _ rfl
      have x2 := hc 2 _ rfl
      have x3 := hc 3 _ rfl
      have x4 := hc 4 _ rfl
      have x5 := hc 5 _ rfl
      have x6 := hc 6 _ rfl
      have x7 := hc 7 _ rfl
      have x8 := hc 8 _ rfl
      have x9 := hc 9 _ rfl
      have x10 := hc 10 _ rfl
      have x11 := hc 11 _ rfl
      have x12 := hc 12 _ rfl
      rw [Nat.add_zero] at x0
      have HNL := Lib.hid hnl
      have HF := Lib.hid hF
      clear hkey hr hc hnl hF
      go_upto_region 6 with fail
      obtain ⟨w1, hw1⟩ : ∃ w1, w1 = wr.alloc (.cells (nc ⟨⟨a0, a1, a2, A', n', c', ds, b0, b1, b2, b3, b4, b5⟩, void, u0, u1⟩).toArray 39) := ⟨_, rfl⟩
      have k1 : Below wr.heap.size wr w1 := by rw [hw1]; exact (Below.refl _ _).alloc (Nat.le_refl _) _
      have z1 : w1.heap.size = wr.heap.size + 1 := by rw [hw1]; simp
      have bx : ∀ j u, (nc ⟨⟨a0, a1, a2, A', n', c', ds, b0, b1, b2, b3, b4, b5⟩, void, u0, u1⟩)[j]? = some u → w1.cell? ⟨wr.heap.size, j, none⟩ = some u := by
        intro j u hu
        rw [hw1, World.cell?_alloc_at _ _ _ _ rfl]
        simpa using hu
      have fx : ∀ j, w1.frozen? ⟨wr.heap.size, j, none⟩ = false := fun j => by rw [hw1]; exact World.frozen?_alloc_at _ _ _ j rfl
      simp only [nc] at hw1
      rw [← hw1]
      have y0 := bx 0 _ rfl
      have y1 := bx 1 _ rfl
      have y2 := bx 2 _ rfl
      have y3 := bx 3 _ rfl
      have y4 := bx 4 _ rfl
      have y5 := bx 5 _ rfl
      have y6 := bx 6 _ rfl
      have y7 := bx 7 _ rfl
      have y8 := bx 8 _ rfl
      have y9 := bx 9 _ rfl
      have er1 : EvR w1 P ⟨a0, a1, a2, A', n', c', ds, b0, b1, b2, b3, b4, b5⟩ := er.keep fun i hi => k1.block i (Nat.lt_of_lt_of_le (hP i hi) hsz)
      have hP1 : ∀ i, P i → i < w1.heap.size := fun i hi => Nat.lt_of_lt_of_le (hP i hi) (by omega)
      have HW1 := Lib.hid hw1
      have BX := Lib.hid bx
      have FX := Lib.hid fx
      clear hw1 bx fx x0 x1 x2 x3 x4 x5 x6 x7 x8 x9 x10 x11 x12 er
      go_wp2_with fail
      refine (copyEvent_any ⟨a0, a1, a2, A', n', c', ds, b0, b1, b2, b3, b4, b5⟩ P w1 er1 hP1 hfr).mono ?_
      rintro e w2 ⟨⟨c0, c1, c2, B', m', d', es, f0, f1, f2, f3, f4, f5⟩, rfl, hek, hev, hem, k2⟩
      simp only [ekey, Prod.mk.injEq] at hek
      obtain ⟨⟨rfl, rfl, rfl⟩, rfl, rfl, rfl, rfl, rfl, rfl, rfl⟩ := hek
      simp only [ec]
      have b2x : ∀ j, w2.cell? ⟨wr.heap.size, j, none⟩ = w1.cell? ⟨wr.heap.size, j, none⟩ := fun j => k2.cell (p := ⟨wr.heap.size, j, none⟩) (by show wr.heap.size < _; omega)
      have f2x : ∀ j, w2.frozen? ⟨wr.heap.size, j, none⟩ = false := fun j => (froz_below k2 ⟨wr.heap.size, j, none⟩ (by show wr.heap.size < _; omega)).trans (FX.out j)
      obtain ⟨vs, hvs⟩ : ∃ vs : List Value, vs = [.int .i64 c0, .int .i64 c1, .int .i64 c2, .slice B' m' d', .int .i64 f0, .int .i64 f1, .int .i64 f2, .int .i64 f3, .int .i64 f4, .int .i64 f5] := ⟨_, rfl⟩
      have hvl : vs.length = 10 := by rw [hvs]; rfl
      obtain ⟨w3, hw3⟩ : ∃ W, W = w2.setCells wr.heap.size 0 vs := ⟨_, rfl⟩
      have hbs : ∀ j, j < 13 → (w2.cell? ⟨wr.heap.size, j, none⟩).isSome = true := fun j hj => by rw [b2x j, BX.out j _ (List.getElem?_eq_getElem (by rw [nc_length]; exact hj))]; rfl
      have x3 : ∀ j u, vs[j]? = some u → w3.cell? ⟨wr.heap.size, j, none⟩ = some u := fun j u hu => by rw [hw3]; exact set13_cells vs (fun j hj => hbs j (by omega)) j u hu
      have hw3' := hw3
      rw [hvs] at hw3'
      simp only [World.setCells, Nat.zero_add, Nat.reduceAdd] at hw3'
      have x3' : ∀ j u, 10 ≤ j → (nc ⟨⟨c0, c1, c2, A', n', c', es, f0, f1, f2, f3, f4, f5⟩, void, u0, u1⟩)[j]? = some u → w3.cell? ⟨wr.heap.size, j, none⟩ = some u := fun j u hj hu => by
        rw [hw3']
        repeat rw [cell_other (by omega)]
        exact (b2x j).trans (BX.out j u hu)
      have f3x : ∀ j, w3.frozen? ⟨wr.heap.size, j, none⟩ = false := fun j => by
        rw [hw3']
        simp only [World.frozen?_setCell]
        exact f2x j
      have z2 := k2.size
      have z3 : w3.heap.size = w2.heap.size := by rw [hw3, size_setCells]
      have h23 : ∀ i, i ≠ wr.heap.size → w3.heap[i]? = w2.heap[i]? := fun i hi => by rw [hw3, heap_setCells_far _ _ _ _ i hi]
      have b3' : Below 0 w2 w3 := by rw [hw3]; exact below0_setCells _ _ _ _
      have k3 : Below wr.heap.size wr w3 := ⟨b3'.os.trans (k2.os.trans k1.os), b3'.tape.trans (k2.tape.trans k1.tape), b3'.output.trans (k2.output.trans k1.output), by omega, fun i hi => (h23 i (by omega)).trans ((k2.block i (by omega)).trans (k1.block i hi))⟩
      have hev3 : EvR w3 (New wr w3) ⟨c0, c1, c2, B', m', d', es, f0, f1, f2, f3, f4, f5⟩ := (hev.keep fun i hi => h23 i (by have := hi.1; omega)).more fun i hi => ⟨by have := hi.1; omega, by have := hi.2.1; omega, hi.2.2.keep (h23 i (by have := hi.1; omega))⟩
      have y0 := x3 0 _ (by rw [hvs]; rfl)
      have y1 := x3 1 _ (by rw [hvs]; rfl)
      have y2 := x3 2 _ (by rw [hvs]; rfl)
      have y3 := x3 3 _ (by rw [hvs]; rfl)
      have y4 := x3 4 _ (by rw [hvs]; rfl)
      have y5 := x3 5 _ (by rw [hvs]; rfl)
      have y6 := x3 6 _ (by rw [hvs]; rfl)
      have y7 := x3 7 _ (by rw [hvs]; rfl)
      have y8 := x3 8 _ (by rw [hvs]; rfl)
      have y9 := x3 9 _ (by rw [hvs]; rfl)
      have y10 := x3' 10 _ (by decide) rfl
      have y11 := x3' 11 _ (by decide) rfl
      have y12 := x3' 12 _ (by decide) rfl
      have t0 := (b2x 0).trans (BX.out 0 _ rfl)
      have g0 := f2x 0
      have t1 := (b2x 1).trans (BX.out 1 _ rfl)
      have g1 := f2x 1
      have t2 := (b2x 2).trans (BX.out 2 _ rfl)
      have g2 := f2x 2
      have t3 := (b2x 3).trans (BX.out 3 _ rfl)
      have g3 := f2x 3
      have t4 := (b2x 4).trans (BX.out 4 _ rfl)
      have g4 := f2x 4
      have t5 := (b2x 5).trans (BX.out 5 _ rfl)
      have g5 := f2x 5
      have t6 := (b2x 6).trans (BX.out 6 _ rfl)
      have g6 := f2x 6
      have t7 := (b2x 7).trans (BX.out 7 _ rfl)
      have g7 := f2x 7
      have t8 := (b2x 8).trans (BX.out 8 _ rfl)
      have g8 := f2x 8
      have t9 := (b2x 9).trans (BX.out 9 _ rfl)
      have g9 := f2x 9
      have HW3 := Lib.hid hw3'
      have HEV3 := Lib.hid hev3
      have hz3 : w.heap.size ≤ w3.heap.size := by omega
      have hem' : m' ≤ 1099511627000 := by simp only at hem hfr; omega
      clear hw3 hw3' hvs x3 x3' f3x b2x f2x hbs hev hev3 hem hvl h23 b3' hfr er1 hP1 z3 z1 z2
      go_upto_region 7 with fail
      rw [← HW3.out]
      have hF := HF.out
      have hrow : w3.ownsRow w.heap.size 39 13 u3 k (ns.flatMap nc) := by
        have := (hF.below k3).row
        rwa [HNL.out] at this
      go_wp2_with (at_builtin; (refine wpList_app1 w3 #[.int .i64 c0, .int .i64 c1, .int .i64 c2, .slice B' m' d', .int .i64 f0, .int .i64 f1, .int .i64 f2, .int .i64 f3, .int .i64 f4, .int .i64 f5, .bool void, .int .i64 u0, .int .i64 u1] rfl _ _ 22 rfl w.heap.size 39 (.agg (nc zeroEn).toArray) 13 120 Try.underlying22 infoEn rfl (by decide) _ k _ hrow rfl rfl rfl (fun u hu => ncs_one [⟨⟨c0, c1, c2, B', m', d', es, f0, f1, f2, f3, f4, f5⟩, void, u0, u1⟩] u (by simpa [nc] using hu)) (by omega) (by omega) (by omega) ?_; intro g cap w4 hown4 hgr4 hb4 hat4 _))
      have hF4 : Fresh w4 w.heap.size (.slice (some ⟨g, 0, none⟩) (k + 1) cap) (ns ++ [⟨⟨c0, c1, c2, B', m', d', es, f0, f1, f2, f3, f4, f5⟩, void, u0, u1⟩]) := by
        have := hF.push (r := ⟨⟨c0, c1, c2, B', m', d', es, f0, f1, f2, f3, f4, f5⟩, void, u0, u1⟩) (g := g) (cap := cap) (w2 := w4) hsz k3 HEV3.out hem' (by rw [HNL.out]; exact hown4) hgr4 hat4
        rwa [HNL.out] at this
      have hB4 := hB.trans ((k3.mono hsz).trans hb4)
      have HF4 := Lib.hid hF4
      have HB4 := Lib.hid hB4
      clear hF4 hB4 hF hrow hown4 hgr4 hb4 hat4 hB
      go_wp2
      go_roundw
      case rel => exact ⟨k + 1, _, by omega, by go_num, by rw [← HK.out, List.map_append]; rfl, HF4.out, HB4.out⟩
      case measure => simp [intOf]; omega
    · obtain rfl : k = n := by omega
      rw [List.take_of_length_le (Nat.le_of_eq hb.len)] at hkey
      have HK := Lib.hid hkey
      clear hkey
      go_wp2
      go_ret
      exact ⟨_, ns, rfl, HK.out, hF, hB⟩
end Go.Proofs.Ytcidmlpjobdakaa
