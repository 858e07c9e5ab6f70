/- Entries, as they lie in memory; a copy of one; lists of entries that are the same. -/
import Derived.Test.YtcidmlpjobdakaaMgI
namespace Go.Proofs.Ytcidmlpjobdakaa
set_option linter.unusedSimpArgs false
set_option linter.unusedVariables false
set_option linter.unnecessarySimpa false
open Go.RowKit

/-- A block of cells that may be written. -/
def CellsAt (w : World) (i : Nat) : Prop := ∃ cur e, w.heap[i]? = some (.cells cur e (0, 0))
theorem CellsAt.keep {w w' : World} {i : Nat} (h : CellsAt w i) (hh : w'.heap[i]? = w.heap[i]?) : CellsAt w' i := by
  obtain ⟨cur, e, hc⟩ := h
  exact ⟨cur, e, hh.trans hc⟩
theorem CellsAt.froz {w : World} {i : Nat} (h : CellsAt w i) (j : Nat) : w.frozen? ⟨i, j, none⟩ = false := by
  obtain ⟨cur, e, hc⟩ := h
  simp [World.frozen?, hc]
theorem own_cellsAt {w : World} {base : Nat} {e : TypeId} {size : Nat} {v : Value} {n : Nat} {xs : List Value} (h : w.ownsRow base e size v n xs) {i : Nat} (hb : v.ownBlock = some i) : CellsAt w i := by
  rcases h.2 with ⟨h2, _⟩ | ⟨g, cap, cur, hv, _, hg, _⟩
  · rw [h2] at hb; cases hb
  · rw [hv] at hb
    obtain rfl : g = i := Option.some.inj hb
    exact ⟨cur, e, hg⟩
theorem own_soft {w : World} {base : Nat} {e : TypeId} {size : Nat} {A : Option Addr} {n c : Nat} {xs : List Value} (h : w.ownsRow base e size (.slice A n c) n xs) : Reads w (fun i => base ≤ i ∧ i < w.heap.size ∧ CellsAt w i) size A n xs :=
  (Reads.of_own h).more fun i hi => by
    have hb : (Value.slice A n c).ownBlock = some i := by cases A <;> exact hi
    exact ⟨(h.lt i hb).1, (h.lt i hb).2, own_cellsAt h hb⟩
/-- Blocks that are new, and may be written. -/
def New (w w' : World) : Nat → Prop := fun i => w.heap.size ≤ i ∧ i < w'.heap.size ∧ CellsAt w' i
/-- An entry: its event, whether it is void, and by which one. -/
structure En where
  e : Ev
  void : Bool
  y0 : Int
  y1 : Int
def nc (r : En) : List Value := [.int .i64 r.e.a0, .int .i64 r.e.a1, .int .i64 r.e.a2, .slice r.e.A r.e.n r.e.c, .int .i64 r.e.b0, .int .i64 r.e.b1, .int .i64 r.e.b2, .int .i64 r.e.b3, .int .i64 r.e.b4, .int .i64 r.e.b5, .bool r.void, .int .i64 r.y0, .int .i64 r.y1]
def nkey (r : En) := (ekey r.e, r.void, r.y0, r.y1)
theorem nc_length (r : En) : (nc r).length = 13 := rfl
theorem ncs_one (l : List En) : ∀ u ∈ l.flatMap nc, u.oneCell' = true := by
  intro u hu
  simp only [List.mem_flatMap] at hu
  obtain ⟨r, _, hr⟩ := hu
  simp [nc] at hr
  rcases hr with rfl | rfl | rfl | rfl | rfl | rfl | rfl | rfl | rfl | rfl | rfl | rfl | rfl <;> rfl
/-- A slice reads as entries, with all they hold. -/
def RL (w : World) (P : Nat → Prop) (A : Option Addr) (n : Nat) (l : List En) : Prop := Reads w P 13 A n (l.flatMap nc) ∧ ∀ r ∈ l, EvR w P r.e
section
variable {w w' : World} {P Q : Nat → Prop} {n : Nat} {A : Option Addr} {l : List En}
theorem RL.len (h : RL w P A n l) : l.length = n := by have := h.1.1; rw [flat_length nc_length] at this; omega
theorem RL.keep (h : RL w P A n l) (hk : Same P w w') : RL w' P A n l := ⟨Reads.keep h.1 hk, fun e he => (h.2 e he).keep hk⟩
theorem RL.more (h : RL w P A n l) (hQ : ∀ i, P i → Q i) : RL w Q A n l := ⟨Reads.more h.1 hQ, fun e he => (h.2 e he).more hQ⟩
theorem RL.nil (w : World) (P : Nat → Prop) (A : Option Addr) : RL w P A 0 [] := ⟨Reads.zero, fun e h => by cases h⟩
theorem RL.cell (h : RL w P A n l) {k : Nat} (hk : k < n) : ∃ b off r, A = some ⟨b, off, none⟩ ∧ P b ∧ l[k]? = some r ∧ EvR w P r.e ∧
    ∀ j u, (nc r)[j]? = some u → w.cell? ⟨b, off + k * 13 + j, none⟩ = some u := by
  obtain ⟨b, off, e, hb, hc⟩ := h.1.2 (by omega)
  have hl : k < l.length := by rw [h.len]; exact hk
  have hg := List.getElem?_eq_getElem hl
  refine ⟨b, off, l[k], e, hb, hg, h.2 _ (List.getElem_mem hl), fun j u hu => ?_⟩
  have hj : j < 13 := by
    have := (List.getElem?_eq_some_iff.1 hu).1
    rwa [nc_length] at this
  have := hc (k * 13 + j) u (by rw [flat_get nc_length l k j _ hg hj]; exact hu)
  rwa [← Nat.add_assoc] at this
end
def zeroEn : En := ⟨⟨0, 0, 0, none, 0, 0, [], 0, 0, 0, 0, 0, 0⟩, false, 0, 0⟩
theorem infoEn : (Try.prog.info? 39).map (fun i => (i.zero, i.size, i.bytes)) = some (some (.agg (nc zeroEn).toArray), 13, 120) := by kernel_rfl

theorem set13_cells {W : World} {g : Nat} (vs : List Value) (h : ∀ j, j < vs.length → (W.cell? ⟨g, j, none⟩).isSome = true) (j : Nat) (u : Value) (hu : vs[j]? = some u) : (W.setCells g 0 vs).cell? ⟨g, j, none⟩ = some u := by
  have hj := (List.getElem?_eq_some_iff.1 hu).1
  have := World.cell?_setCells_in g vs 0 W (fun t ht => by rw [Nat.zero_add]; exact h t ht) j hj
  rw [Nat.zero_add] at this
  rw [this]
  have h2 := List.getElem?_eq_getElem hj
  rw [← h2]; exact hu

set_option maxHeartbeats 800000 in
set_option maxRecDepth 100000 in
theorem copyOf_any (r : En) (P : Nat → Prop) (w : World) (h : EvR w P r.e) (hP : ∀ i, P i → i < w.heap.size) (hf : r.e.n ≤ 1099511627000) :
    Calls Try.prog 41 #[.agg (nc r).toArray] w fun e w' => ∃ r', e = .returned (.agg (nc r').toArray) ∧ nkey r' = nkey r ∧ EvR w' (New w w') r'.e ∧ r'.e.n = r.e.n ∧ Below w.heap.size w w' := by
  obtain ⟨⟨a0, a1, a2, A, n, c, ds, b0, b1, b2, b3, b4, b5⟩, void, y0, y1⟩ := r
  obtain ⟨hv, hv1, hv2, hv3⟩ := h
  simp only at hv hv1 hv2 hv3 hf
  obtain ⟨W0, hW0⟩ : ∃ W0, W0 = (w.alloc (.cells (nc ⟨⟨a0, a1, a2, A, n, c, ds, b0, b1, b2, b3, b4, b5⟩, void, y0, y1⟩).toArray 39)).alloc (.cells (nc zeroEn).toArray 39) := ⟨_, rfl⟩
  have k0 : Below w.heap.size w W0 := by rw [hW0]; exact ((Below.refl _ _).alloc (Nat.le_refl _) _).alloc (by simp) _
  have z0 : W0.heap.size = w.heap.size + 2 := by rw [hW0]; simp
  have bx : ∀ j u, (nc ⟨⟨a0, a1, a2, A, n, c, ds, b0, b1, b2, b3, b4, b5⟩, void, y0, y1⟩)[j]? = some u → W0.cell? ⟨w.heap.size, j, none⟩ = some u := by
    intro j u hu
    rw [hW0, World.cell?_alloc_past _ _ _ (by simp), World.cell?_alloc_at _ _ _ _ rfl]
    simpa using hu
  have rx : ∀ j u, (nc zeroEn)[j]? = some u → W0.cell? ⟨w.heap.size + 1, j, none⟩ = some u := by
    intro j u hu
    rw [hW0, World.cell?_alloc_at _ _ _ _ (by simp)]
    simpa using hu
  have fx : ∀ g j, g = w.heap.size ∨ g = w.heap.size + 1 → W0.frozen? ⟨g, j, none⟩ = false := by
    intro g j hg
    rw [hW0]
    rcases hg with rfl | rfl
    · rw [World.frozen?_alloc_past _ _ _ (by simp)]; exact World.frozen?_alloc_at _ _ _ j rfl
    · exact World.frozen?_alloc_at _ _ _ j (by simp)
  have hv0 : RN W0 P A n ds := hv.keep fun i hi => k0.block i (hP i hi)
  have hP0 : ∀ i, P i → i < W0.heap.size := fun i hi => Nat.lt_of_lt_of_le (hP i hi) k0.size
  go_enter Try.func41, Try.ntmps41
  simp only [nc, zeroEn] at hW0 bx rx ⊢
  go_wp2_with fail
  rw [← hW0]
  refine (cloneInts_any P A n c ds W0 hv0 hP0 hf (fun e => ⟨by have := hv3 e; omega, hv3 e⟩)).mono ?_
  rintro e w1 ⟨v1, rfl, o1, bb1⟩
  obtain ⟨V1, d1, rfl, hd1, hd1', _⟩ := own_form o1
  have zz := bb1.size
  have p3 := (bb1.cell (p := ⟨w.heap.size, 3, none⟩) (by show w.heap.size < _; omega)).trans (bx 3 _ rfl)
  have f3 := (froz_below bb1 ⟨w.heap.size, 3, none⟩ (by show w.heap.size < _; omega)).trans (fx _ 3 (.inl rfl))
  obtain ⟨w2, hw2⟩ : ∃ W, W = w1.setCell ⟨w.heap.size, 3, none⟩ (.slice V1 n d1) := ⟨_, rfl⟩
  have z2 : w2.heap.size = w1.heap.size := by rw [hw2]; simp
  have k2 : Below w.heap.size w w2 := by rw [hw2]; exact (next_below k0 bb1).setCell (p := ⟨w.heap.size, 3, none⟩) (Nat.le_refl _) _
  have o2 : w2.ownsRow W0.heap.size 3 1 (.slice V1 n d1) n (ints ds) := by rw [hw2]; exact ownsRow_setCell_below o1 (a := ⟨w.heap.size, 3, none⟩) (by show w.heap.size < _; omega) _
  obtain ⟨vs, hvs⟩ : ∃ vs : List Value, vs = [.int .i64 a0, .int .i64 a1, .int .i64 a2, .slice V1 n d1, .int .i64 b0, .int .i64 b1, .int .i64 b2, .int .i64 b3, .int .i64 b4, .int .i64 b5, .bool void, .int .i64 y0, .int .i64 y1] := ⟨_, rfl⟩
  have hvl : vs.length = 13 := by rw [hvs]; rfl
  have c2 : ∀ j u, vs[j]? = some u → w2.cell? ⟨w.heap.size, j, none⟩ = some u := by
    intro j u hu
    rw [hw2]
    by_cases hj : j = 3
    · subst hj
      rw [hvs] at hu
      simp at hu
      subst hu
      exact World.cell?_setCell_same _ _ _ p3
    · refine (cell_other (fun e => hj e.symm)).trans ?_
      refine (bb1.cell (p := ⟨w.heap.size, j, none⟩) (by show w.heap.size < _; omega)).trans (bx j u ?_)
      have hl : j < 13 := by have := (List.getElem?_eq_some_iff.1 hu).1; omega
      rw [hvs] at hu
      match j, hl, hj with
      | 0, _, _ => exact hu
      | 1, _, _ => exact hu
      | 2, _, _ => exact hu
      | 3, _, hj => exact absurd rfl hj
      | 4, _, _ => exact hu
      | 5, _, _ => exact hu
      | 6, _, _ => exact hu
      | 7, _, _ => exact hu
      | 8, _, _ => exact hu
      | 9, _, _ => exact hu
      | 10, _, _ => exact hu
      | 11, _, _ => exact hu
      | 12, _, _ => exact hu
  have r2' : ∀ j u, [Value.int .i64 0, .int .i64 0, .int .i64 0, .slice none 0 0, .int .i64 0, .int .i64 0, .int .i64 0, .int .i64 0, .int .i64 0, .int .i64 0, .bool false, .int .i64 0, .int .i64 0][j]? = some u → w2.cell? ⟨w.heap.size + 1, j, none⟩ = some u := by
    intro j u hu
    rw [hw2]
    exact (World.cell?_setCell_far _ ⟨w.heap.size, 3, none⟩ ⟨w.heap.size + 1, j, none⟩ _ (by simp)).trans ((bb1.cell (p := ⟨w.heap.size + 1, j, none⟩) (by show w.heap.size + 1 < _; omega)).trans (rx j u hu))
  have r2 : ∀ j, j < 13 → (w2.cell? ⟨w.heap.size + 1, j, none⟩).isSome = true := by
    intro j hj
    obtain ⟨u, hu⟩ : ∃ u, [Value.int .i64 0, .int .i64 0, .int .i64 0, .slice none 0 0, .int .i64 0, .int .i64 0, .int .i64 0, .int .i64 0, .int .i64 0, .int .i64 0, .bool false, .int .i64 0, .int .i64 0][j]? = some u := ⟨_, List.getElem?_eq_getElem (by simpa using hj)⟩
    rw [r2' j u hu]; rfl
  have f2 : ∀ j, w2.frozen? ⟨w.heap.size + 1, j, none⟩ = false := by
    intro j
    rw [hw2, World.frozen?_setCell]
    exact (froz_below bb1 ⟨w.heap.size + 1, j, none⟩ (by show w.heap.size + 1 < _; omega)).trans (fx _ j (.inr rfl))
  obtain ⟨w3, hw3⟩ : ∃ W, W = w2.setCells (w.heap.size + 1) 0 vs := ⟨_, rfl⟩
  have x3 : ∀ j u, vs[j]? = some u → w3.cell? ⟨w.heap.size + 1, j, none⟩ = some u := fun j u hu => by rw [hw3]; exact set13_cells vs (fun j hj => r2 j (by omega)) j u hu
  have k3 : Below w.heap.size w w3 := ⟨by rw [hw3]; exact (below0_setCells _ _ _ _).os.trans k2.os, by rw [hw3]; exact (below0_setCells _ _ _ _).tape.trans k2.tape, by rw [hw3]; exact (below0_setCells _ _ _ _).output.trans k2.output, by rw [hw3, size_setCells]; exact k2.size, fun i hi => by rw [hw3, heap_setCells_far _ _ _ _ i (by omega)]; exact k2.block i hi⟩
  have hev : EvR w3 (New w w3) ⟨a0, a1, a2, V1, n, d1, ds, b0, b1, b2, b3, b4, b5⟩ := by
    refine ⟨?_, hd1, hd1', own_nil o2⟩
    have hh : ∀ i, W0.heap.size ≤ i → w3.heap[i]? = w2.heap[i]? := fun i hi => by rw [hw3, heap_setCells_far _ _ _ _ i (by omega)]
    have h1 : RN w2 _ V1 n ds := own_soft o2
    refine (h1.keep fun i hi => hh i hi.1).more fun i hi => ⟨by omega, by rw [hw3, size_setCells]; exact hi.2.1, hi.2.2.keep (hh i hi.1)⟩
  have y0' := x3 0 _ (by rw [hvs]; rfl)
  have y1' := x3 1 _ (by rw [hvs]; rfl)
  have y2' := x3 2 _ (by rw [hvs]; rfl)
  have y3' := x3 3 _ (by rw [hvs]; rfl)
  have y4' := x3 4 _ (by rw [hvs]; rfl)
  have y5' := x3 5 _ (by rw [hvs]; rfl)
  have y6' := x3 6 _ (by rw [hvs]; rfl)
  have y7' := x3 7 _ (by rw [hvs]; rfl)
  have y8' := x3 8 _ (by rw [hvs]; rfl)
  have y9' := x3 9 _ (by rw [hvs]; rfl)
  have y10' := x3 10 _ (by rw [hvs]; rfl)
  have y11' := x3 11 _ (by rw [hvs]; rfl)
  have y12' := x3 12 _ (by rw [hvs]; rfl)
  have q0 := c2 0 _ (by rw [hvs]; rfl)
  have q1 := c2 1 _ (by rw [hvs]; rfl)
  have q2 := c2 2 _ (by rw [hvs]; rfl)
  have q3 := c2 3 _ (by rw [hvs]; rfl)
  have q4 := c2 4 _ (by rw [hvs]; rfl)
  have q5 := c2 5 _ (by rw [hvs]; rfl)
  have q6 := c2 6 _ (by rw [hvs]; rfl)
  have q7 := c2 7 _ (by rw [hvs]; rfl)
  have q8 := c2 8 _ (by rw [hvs]; rfl)
  have q9 := c2 9 _ (by rw [hvs]; rfl)
  have q10 := c2 10 _ (by rw [hvs]; rfl)
  have q11 := c2 11 _ (by rw [hvs]; rfl)
  have q12 := c2 12 _ (by rw [hvs]; rfl)
  have t0 := r2' 0 _ rfl
  have g0 := f2 0
  have t1 := r2' 1 _ rfl
  have g1 := f2 1
  have t2 := r2' 2 _ rfl
  have g2 := f2 2
  have t3 := r2' 3 _ rfl
  have g3 := f2 3
  have t4 := r2' 4 _ rfl
  have g4 := f2 4
  have t5 := r2' 5 _ rfl
  have g5 := f2 5
  have t6 := r2' 6 _ rfl
  have g6 := f2 6
  have t7 := r2' 7 _ rfl
  have g7 := f2 7
  have t8 := r2' 8 _ rfl
  have g8 := f2 8
  have t9 := r2' 9 _ rfl
  have g9 := f2 9
  have t10 := r2' 10 _ rfl
  have g10 := f2 10
  have t11 := r2' 11 _ rfl
  have g11 := f2 11
  have t12 := r2' 12 _ rfl
  have g12 := f2 12
  rw [hw3, hvs] at y0' y1' y2' y3' y4' y5' y6' y7' y8' y9' y10' y11' y12'
  simp only [World.setCells, Nat.zero_add, Nat.reduceAdd] at y0' y1' y2' y3' y4' y5' y6' y7' y8' y9' y10' y11' y12'
  have HW2 := Lib.hid hw2
  have HW3 := Lib.hid hw3
  have HVS := Lib.hid hvs
  have HEV := Lib.hid hev
  have R2 := Lib.hid r2
  have F2 := Lib.hid f2
  clear bx rx fx hW0 hv0 hw2 hw3 hvs hev r2 r2' f2 c2 x3 o1 o2 bb1 hv k2
  go_upto_region 2 with fail
  rw [← HW2.out]
  go_wp2
  refine bodyPost_ret (v := .agg (nc ⟨⟨a0, a1, a2, V1, n, d1, ds, b0, b1, b2, b3, b4, b5⟩, void, y0, y1⟩).toArray) ?_ rfl ?_
  · simp [results, Try.results41, go_sem, nc, y0', y1', y2', y3', y4', y5', y6', y7', y8', y9', y10', y11', y12']
  · have he := HW3.out
    rw [HVS.out] at he
    simp only [World.setCells, Nat.zero_add, Nat.reduceAdd] at he
    rw [← he]
    exact ⟨_, rfl, rfl, HEV.out, rfl, k3⟩
end Go.Proofs.Ytcidmlpjobdakaa
