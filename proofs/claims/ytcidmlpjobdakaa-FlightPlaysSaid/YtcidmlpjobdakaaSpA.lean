/- What is written over: numbers; where a slice lies that may be written. CopyEvent; the document's copy of an entry. -/
import Derived.Test.YtcidmlpjobdakaaEnA
namespace Go.Proofs.Ytcidmlpjobdakaa
set_option linter.unusedSimpArgs false
set_option linter.unusedVariables false
set_option linter.unnecessarySimpa false
open Go.RowKit

/-- Only blocks of P are written, and what were cells are cells. -/
structure Spoilt (P : Nat → Prop) (w w' : World) : Prop where
  b0 : Below 0 w w'
  size : w'.heap.size = w.heap.size
  far : ∀ i, ¬ P i → w'.heap[i]? = w.heap[i]?
  kept : ∀ i, CellsAt w i → CellsAt w' i
  some_ : ∀ i o, (w.cell? ⟨i, o, none⟩).isSome = true → (w'.cell? ⟨i, o, none⟩).isSome = true
theorem Spoilt.refl (P : Nat → Prop) (w : World) : Spoilt P w w := ⟨Below.refl _ _, rfl, fun _ _ => rfl, fun _ h => h, fun _ _ h => h⟩
theorem Spoilt.trans {P : Nat → Prop} {w w1 w2 : World} (h : Spoilt P w w1) (k : Spoilt P w1 w2) : Spoilt P w w2 :=
  ⟨h.b0.trans k.b0, k.size.trans h.size, fun i hi => (k.far i hi).trans (h.far i hi), fun i hi => k.kept i (h.kept i hi), fun i o hi => k.some_ i o (h.some_ i o hi)⟩
theorem Spoilt.more {P Q : Nat → Prop} {w w' : World} (h : Spoilt P w w') (hQ : ∀ i, P i → Q i) : Spoilt Q w w' := ⟨h.b0, h.size, fun i hi => h.far i fun e => hi (hQ i e), h.kept, h.some_⟩
theorem Spoilt.below {P : Nat → Prop} {w w' : World} {B : Nat} (h : Spoilt P w w') (hP : ∀ i, P i → B ≤ i) : Below B w w' :=
  ⟨h.b0.os, h.b0.tape, h.b0.output, h.b0.size, fun i hi => h.far i fun e => by have := hP i e; omega⟩
theorem cellsAt_setCell {w : World} {i : Nat} (h : CellsAt w i) (g o : Nat) (u : Value) : CellsAt (w.setCell ⟨g, o, none⟩ u) i := by
  obtain ⟨cur, e, hc⟩ := h
  by_cases hg : i = g
  · subst hg
    obtain ⟨cur', h1, _⟩ := heap_setCell_at (o := o) (u := u) hc
    exact ⟨cur', e, h1⟩
  · exact ⟨cur, e, (Below.heap_setCell w ⟨g, o, none⟩ u i hg).trans hc⟩
theorem isSome_setCell {w : World} {i j : Nat} (h : (w.cell? ⟨i, j, none⟩).isSome = true) (g o : Nat) (u : Value) : ((w.setCell ⟨g, o, none⟩ u).cell? ⟨i, j, none⟩).isSome = true := by
  by_cases hg : i = g
  · subst hg
    by_cases hj : o = j
    · subst hj; rw [cell_same h]; rfl
    · rw [cell_other hj]; exact h
  · obtain ⟨x, hx⟩ := Option.isSome_iff_exists.1 h
    rw [far_one (fun e => hg e.symm) hx]; rfl
theorem Spoilt.setCell {P : Nat → Prop} (w : World) (g o : Nat) (u : Value) (hg : P g) : Spoilt P w (w.setCell ⟨g, o, none⟩ u) :=
  ⟨(Below.refl 0 w).setCell (p := ⟨g, o, none⟩) (Nat.zero_le _) _, by simp, fun i hi => Below.heap_setCell w ⟨g, o, none⟩ u i (fun e => hi (e ▸ hg)), fun _ h => cellsAt_setCell h _ _ _, fun _ _ h => isSome_setCell h _ _ _⟩
/-- A slice whose cells may be written. -/
def Soft (w : World) (P : Nat → Prop) (A : Option Addr) (n : Nat) : Prop := 0 < n → ∃ b off, A = some ⟨b, off, none⟩ ∧ P b ∧ CellsAt w b ∧ ∀ j, j < n → (w.cell? ⟨b, off + j, none⟩).isSome = true
theorem Soft.spoilt {w w' : World} {P Q : Nat → Prop} {A : Option Addr} {n : Nat} (h : Soft w P A n) (k : Spoilt Q w w') : Soft w' P A n := fun h0 => by
  obtain ⟨b, off, e, hb, hc, hs⟩ := h h0
  exact ⟨b, off, e, hb, k.kept b hc, fun j hj => k.some_ _ _ (hs j hj)⟩
theorem Soft.more {w : World} {P Q : Nat → Prop} {A : Option Addr} {n : Nat} (h : Soft w P A n) (hQ : ∀ i, P i → Q i) : Soft w Q A n := fun h0 => by
  obtain ⟨b, off, e, hb, hc, hs⟩ := h h0
  exact ⟨b, off, e, hQ b hb, hc, hs⟩
theorem RN.soft {w : World} {P : Nat → Prop} {A : Option Addr} {n : Nat} {zs : List Int} (h : RN w P A n zs) (hP : ∀ i, P i → CellsAt w i) : Soft w P A n := fun h0 => by
  obtain ⟨b, off, z, e, hb, _, _⟩ := h.cell h0
  refine ⟨b, off, e, hb, hP b hb, fun j hj => ?_⟩
  obtain ⟨b', off', z', e', _, _, hc⟩ := h.cell hj
  rw [e] at e'
  cases e'
  rw [hc]; rfl

set_option maxHeartbeats 400000 in
theorem markInts_any (i : Int) (w : World) : Calls Try.prog 61 #[.int .i64 i] w fun e w' => ∃ z, e = .returned (.int .i64 z) ∧ w = w' := by
  go_enter Try.func61, Try.ntmps61
  go_wp2
  go_ret
  exact ⟨_, rfl, rfl⟩

set_option maxHeartbeats 400000 in
theorem spoilInts_any (P : Nat → Prop) (A : Option Addr) (n c : Nat) (w : World) (h : Soft w P A n) (hn : n ≤ 1099511627000) :
    Calls Try.prog 45 #[.slice A n c] w fun e w' => (∃ v, e = .returned v) ∧ Spoilt P w w' := by
  go_enter Try.func45, Try.ntmps45
  go_wp2
  go_loopw [2] (fun i wr => ∃ k : Nat, k ≤ n ∧ i = .int .i64 k ∧ Spoilt P w wr) (fun i _ => n - (intOf i).toNat)
  case atStart => exact ⟨0, by omega, rfl, Spoilt.refl _ _⟩
  case round =>
    obtain ⟨k, hk, rfl, hs⟩ := hrel
    by_cases hlt : k < n
    · obtain ⟨b, off, rfl, hb, hc, hj⟩ := (h.spoilt hs) (by omega)
      have hki : (k : Int) < (n : Int) := by omega
      have hk0 : (0 : Int) ≤ (k : Int) := by omega
      obtain ⟨u, hu⟩ := Option.isSome_iff_exists.1 (hj k hlt)
      have hf := hc.froz (off + k)
      have HS := Lib.hid hs
      clear hs hj
      go_wp2_with (go_at_call 61; refine (markInts_any _ _).mono ?_; rintro e w' ⟨z, rfl, rfl⟩)
      go_roundw
      case rel => exact ⟨k + 1, by omega, by go_num, HS.out.trans (Spoilt.setCell _ _ _ _ hb)⟩
      case measure => simp [intOf]; omega
    · obtain rfl : k = n := by omega
      go_wp2
      go_end0
      exact ⟨⟨_, rfl⟩, hs⟩

def zeroEv : Ev := ⟨0, 0, 0, none, 0, 0, [], 0, 0, 0, 0, 0, 0⟩

set_option maxHeartbeats 800000 in
set_option maxRecDepth 100000 in
theorem copyEvent_any (r : Ev) (P : Nat → Prop) (w : World) (h : EvR w P r) (hP : ∀ i, P i → i < w.heap.size) (hf : r.n ≤ 1099511627000) :
    Calls Try.prog 38 #[.agg (ec r).toArray] w fun e w' => ∃ r', e = .returned (.agg (ec r').toArray) ∧ ekey r' = ekey r ∧ EvR w' (New w w') r' ∧ r'.n = r.n ∧ Below w.heap.size w w' := by
  obtain ⟨a0, a1, a2, A, n, c, ds, b0, b1, b2, b3, b4, b5⟩ := r
  obtain ⟨hv, hv1, hv2, hv3⟩ := h
  simp only at hv hv1 hv2 hv3 hf
  obtain ⟨W0, hW0⟩ : ∃ W0, W0 = (w.alloc (.cells (ec ⟨a0, a1, a2, A, n, c, ds, b0, b1, b2, b3, b4, b5⟩).toArray 37)).alloc (.cells (ec zeroEv).toArray 37) := ⟨_, rfl⟩
  have k0 : Below w.heap.size w W0 := by rw [hW0]; exact ((Below.refl _ _).alloc (Nat.le_refl _) _).alloc (by simp) _
  have z0 : W0.heap.size = w.heap.size + 2 := by rw [hW0]; simp
  have bx : ∀ j u, (ec ⟨a0, a1, a2, A, n, c, ds, b0, b1, b2, b3, b4, b5⟩)[j]? = some u → W0.cell? ⟨w.heap.size, j, none⟩ = some u := by
    intro j u hu
    rw [hW0, World.cell?_alloc_past _ _ _ (by simp), World.cell?_alloc_at _ _ _ _ rfl]
    simpa using hu
  have rx : ∀ j u, (ec zeroEv)[j]? = some u → W0.cell? ⟨w.heap.size + 1, j, none⟩ = some u := by
    intro j u hu
    rw [hW0, World.cell?_alloc_at _ _ _ _ (by simp)]
    simpa using hu
  have fx : ∀ g j, g = w.heap.size ∨ g = w.heap.size + 1 → W0.frozen? ⟨g, j, none⟩ = false := by
    intro g j hg
    rw [hW0]
    rcases hg with rfl | rfl
    · rw [World.frozen?_alloc_past _ _ _ (by simp)]; exact World.frozen?_alloc_at _ _ _ j rfl
    · exact World.frozen?_alloc_at _ _ _ j (by simp)
  have hv0 : RN W0 P A n ds := hv.keep fun i hi => k0.block i (hP i hi)
  have hP0 : ∀ i, P i → i < W0.heap.size := fun i hi => Nat.lt_of_lt_of_le (hP i hi) k0.size
  go_enter Try.func38, Try.ntmps38
  simp only [ec, zeroEv] at hW0 bx rx ⊢
  go_wp2_with fail
  rw [← hW0]
  refine (copyInts_any P A n c ds W0 hv0 hP0 (by omega)).mono ?_
  rintro e w1 ⟨v1, rfl, o1, bb1⟩
  obtain ⟨V1, d1, rfl, hd1, hd1', _⟩ := own_form o1
  have zz := bb1.size
  have p3 := (bb1.cell (p := ⟨w.heap.size, 3, none⟩) (by show w.heap.size < _; omega)).trans (bx 3 _ rfl)
  have f3 := (froz_below bb1 ⟨w.heap.size, 3, none⟩ (by show w.heap.size < _; omega)).trans (fx _ 3 (.inl rfl))
  obtain ⟨w2, hw2⟩ : ∃ W, W = w1.setCell ⟨w.heap.size, 3, none⟩ (.slice V1 n d1) := ⟨_, rfl⟩
  have z2 : w2.heap.size = w1.heap.size := by rw [hw2]; simp
  have k2 : Below w.heap.size w w2 := by rw [hw2]; exact (next_below k0 bb1).setCell (p := ⟨w.heap.size, 3, none⟩) (Nat.le_refl _) _
  have o2 : w2.ownsRow W0.heap.size 3 1 (.slice V1 n d1) n (ints ds) := by rw [hw2]; exact ownsRow_setCell_below o1 (a := ⟨w.heap.size, 3, none⟩) (by show w.heap.size < _; omega) _
  obtain ⟨vs, hvs⟩ : ∃ vs : List Value, vs = [.int .i64 a0, .int .i64 a1, .int .i64 a2, .slice V1 n d1, .int .i64 b0, .int .i64 b1, .int .i64 b2, .int .i64 b3, .int .i64 b4, .int .i64 b5] := ⟨_, rfl⟩
  have hvl : vs.length = 10 := by rw [hvs]; rfl
  have c2 : ∀ j u, vs[j]? = some u → w2.cell? ⟨w.heap.size, j, none⟩ = some u := by
    intro j u hu
    rw [hw2]
    by_cases hj : j = 3
    · subst hj
      rw [hvs] at hu
      simp at hu
      subst hu
      exact World.cell?_setCell_same _ _ _ p3
    · refine (cell_other (fun e => hj e.symm)).trans ?_
      refine (bb1.cell (p := ⟨w.heap.size, j, none⟩) (by show w.heap.size < _; omega)).trans (bx j u ?_)
      have hl : j < 10 := by have := (List.getElem?_eq_some_iff.1 hu).1; omega
      rw [hvs] at hu
      match j, hl, hj with
      | 0, _, _ => exact hu
      | 1, _, _ => exact hu
      | 2, _, _ => exact hu
      | 3, _, hj => exact absurd rfl hj
      | 4, _, _ => exact hu
      | 5, _, _ => exact hu
      | 6, _, _ => exact hu
      | 7, _, _ => exact hu
      | 8, _, _ => exact hu
      | 9, _, _ => exact hu
  have r2' : ∀ j u, [Value.int .i64 0, .int .i64 0, .int .i64 0, .slice none 0 0, .int .i64 0, .int .i64 0, .int .i64 0, .int .i64 0, .int .i64 0, .int .i64 0][j]? = some u → w2.cell? ⟨w.heap.size + 1, j, none⟩ = some u := by
    intro j u hu
    rw [hw2]
    exact (World.cell?_setCell_far _ ⟨w.heap.size, 3, none⟩ ⟨w.heap.size + 1, j, none⟩ _ (by simp)).trans ((bb1.cell (p := ⟨w.heap.size + 1, j, none⟩) (by show w.heap.size + 1 < _; omega)).trans (rx j u hu))
  have r2 : ∀ j, j < 10 → (w2.cell? ⟨w.heap.size + 1, j, none⟩).isSome = true := by
    intro j hj
    obtain ⟨u, hu⟩ : ∃ u, [Value.int .i64 0, .int .i64 0, .int .i64 0, .slice none 0 0, .int .i64 0, .int .i64 0, .int .i64 0, .int .i64 0, .int .i64 0, .int .i64 0][j]? = some u := ⟨_, List.getElem?_eq_getElem (by simpa using hj)⟩
    rw [r2' j u hu]; rfl
  have f2 : ∀ j, w2.frozen? ⟨w.heap.size + 1, j, none⟩ = false := by
    intro j
    rw [hw2, World.frozen?_setCell]
    exact (froz_below bb1 ⟨w.heap.size + 1, j, none⟩ (by show w.heap.size + 1 < _; omega)).trans (fx _ j (.inr rfl))
  obtain ⟨w3, hw3⟩ : ∃ W, W = w2.setCells (w.heap.size + 1) 0 vs := ⟨_, rfl⟩
  have x3 : ∀ j u, vs[j]? = some u → w3.cell? ⟨w.heap.size + 1, j, none⟩ = some u := fun j u hu => by rw [hw3]; exact set13_cells vs (fun j hj => r2 j (by omega)) j u hu
  have k3 : Below w.heap.size w w3 := ⟨by rw [hw3]; exact (below0_setCells _ _ _ _).os.trans k2.os, by rw [hw3]; exact (below0_setCells _ _ _ _).tape.trans k2.tape, by rw [hw3]; exact (below0_setCells _ _ _ _).output.trans k2.output, by rw [hw3, size_setCells]; exact k2.size, fun i hi => by rw [hw3, heap_setCells_far _ _ _ _ i (by omega)]; exact k2.block i hi⟩
  have hev : EvR w3 (New w w3) ⟨a0, a1, a2, V1, n, d1, ds, b0, b1, b2, b3, b4, b5⟩ := by
    refine ⟨?_, hd1, hd1', own_nil o2⟩
    have hh : ∀ i, W0.heap.size ≤ i → w3.heap[i]? = w2.heap[i]? := fun i hi => by rw [hw3, heap_setCells_far _ _ _ _ i (by omega)]
    have h1 : RN w2 _ V1 n ds := own_soft o2
    refine (h1.keep fun i hi => hh i hi.1).more fun i hi => ⟨by omega, by rw [hw3, size_setCells]; exact hi.2.1, hi.2.2.keep (hh i hi.1)⟩
  have y0' := x3 0 _ (by rw [hvs]; rfl)
  have y1' := x3 1 _ (by rw [hvs]; rfl)
  have y2' := x3 2 _ (by rw [hvs]; rfl)
  have y3' := x3 3 _ (by rw [hvs]; rfl)
  have y4' := x3 4 _ (by rw [hvs]; rfl)
  have y5' := x3 5 _ (by rw [hvs]; rfl)
  have y6' := x3 6 _ (by rw [hvs]; rfl)
  have y7' := x3 7 _ (by rw [hvs]; rfl)
  have y8' := x3 8 _ (by rw [hvs]; rfl)
  have y9' := x3 9 _ (by rw [hvs]; rfl)
  have q0 := c2 0 _ (by rw [hvs]; rfl)
  have q1 := c2 1 _ (by rw [hvs]; rfl)
  have q2 := c2 2 _ (by rw [hvs]; rfl)
  have q3 := c2 3 _ (by rw [hvs]; rfl)
  have q4 := c2 4 _ (by rw [hvs]; rfl)
  have q5 := c2 5 _ (by rw [hvs]; rfl)
  have q6 := c2 6 _ (by rw [hvs]; rfl)
  have q7 := c2 7 _ (by rw [hvs]; rfl)
  have q8 := c2 8 _ (by rw [hvs]; rfl)
  have q9 := c2 9 _ (by rw [hvs]; rfl)
  have t0 := r2' 0 _ rfl
  have g0 := f2 0
  have t1 := r2' 1 _ rfl
  have g1 := f2 1
  have t2 := r2' 2 _ rfl
  have g2 := f2 2
  have t3 := r2' 3 _ rfl
  have g3 := f2 3
  have t4 := r2' 4 _ rfl
  have g4 := f2 4
  have t5 := r2' 5 _ rfl
  have g5 := f2 5
  have t6 := r2' 6 _ rfl
  have g6 := f2 6
  have t7 := r2' 7 _ rfl
  have g7 := f2 7
  have t8 := r2' 8 _ rfl
  have g8 := f2 8
  have t9 := r2' 9 _ rfl
  have g9 := f2 9
  rw [hw3, hvs] at y0' y1' y2' y3' y4' y5' y6' y7' y8' y9'
  simp only [World.setCells, Nat.zero_add, Nat.reduceAdd] at y0' y1' y2' y3' y4' y5' y6' y7' y8' y9'
  have HW2 := Lib.hid hw2
  have HW3 := Lib.hid hw3
  have HVS := Lib.hid hvs
  have HEV := Lib.hid hev
  have R2 := Lib.hid r2
  have F2 := Lib.hid f2
  clear bx rx fx hW0 hv0 hw2 hw3 hvs hev r2 r2' f2 c2 x3 o1 o2 bb1 hv k2
  go_upto_region 2 with fail
  rw [← HW2.out]
  go_wp2
  refine bodyPost_ret (v := .agg (ec ⟨a0, a1, a2, V1, n, d1, ds, b0, b1, b2, b3, b4, b5⟩).toArray) ?_ rfl ?_
  · simp [results, Try.results38, go_sem, ec, y0', y1', y2', y3', y4', y5', y6', y7', y8', y9']
  · have he := HW3.out
    rw [HVS.out] at he
    simp only [World.setCells, Nat.zero_add, Nat.reduceAdd] at he
    rw [← he]
    exact ⟨_, rfl, rfl, HEV.out, rfl, k3⟩
end Go.Proofs.Ytcidmlpjobdakaa
