/- The contract of flight.copied. -/
import Derived.Test.YtcidmlpjobdakaaEvD
import Derived.OneCell
import Derived.Deep.RegionHeld3
import Derived.Deep.CutRange
import Derived.Deep.RegionLaw
namespace Go.Proofs.Ytcidmlpjobdakaa
set_option linter.unusedSimpArgs false
set_option linter.unusedVariables false
set_option linter.unnecessarySimpa false
open Go.RowKit

theorem own_nil {w : World} {base : Nat} {e : TypeId} {size : Nat} {A : Option Addr} {n c m : Nat} {xs : List Value} (h : w.ownsRow base e size (.slice A n c) m xs) (hA : A = none) : c = 0 := by
  subst hA
  rcases h.2 with ⟨h1, _⟩ | ⟨g, cap, cur, h1, _⟩
  · injection h1
  · injection h1 with h2; cases h2
theorem keys_set (L : List Ev) (k : Nat) (r : Ev) (h : L[k]? = some r) (A : Option Addr) (c : Nat) : (L.set k (moved r A c)).map ekey = L.map ekey := by
  rw [List.map_set, ekey_moved]
  apply List.ext_getElem?
  intro i
  by_cases hi : k = i
  · subst hi
    have hl : k < L.length := (List.getElem?_eq_some_iff.1 h).1
    rw [List.getElem?_set_self (by simpa using hl), List.getElem?_map, h]; rfl
  · rw [List.getElem?_set_ne hi]
theorem far_one {w : World} {g b i j : Nat} {u x : Value} (h : g ≠ b) (hc : w.cell? ⟨b, i, none⟩ = some x) : (w.setCell ⟨g, j, none⟩ u).cell? ⟨b, i, none⟩ = some x :=
  (World.cell?_setCell_far _ ⟨g, j, none⟩ ⟨b, i, none⟩ _ h).trans hc

theorem cell_other {W : World} {g i j : Nat} {u : Value} (h : i ≠ j) : (W.setCell ⟨g, i, none⟩ u).cell? ⟨g, j, none⟩ = W.cell? ⟨g, j, none⟩ := World.cell?_setCell_other _ _ _ _ (fun e => h (by injection e))
theorem cell_same {W : World} {g i : Nat} {u : Value} (h : (W.cell? ⟨g, i, none⟩).isSome = true) : (W.setCell ⟨g, i, none⟩ u).cell? ⟨g, i, none⟩ = some u := by
  obtain ⟨x, hx⟩ := Option.isSome_iff_exists.1 h
  exact World.cell?_setCell_same _ _ _ hx
/-- Five cells of a block, written one behind the other. -/
def set5 (W : World) (g : Nat) (u0 u1 u2 u3 u4 : Value) : World := ((((W.setCell ⟨g, 0, none⟩ u0).setCell ⟨g, 1, none⟩ u1).setCell ⟨g, 2, none⟩ u2).setCell ⟨g, 3, none⟩ u3).setCell ⟨g, 4, none⟩ u4
theorem set5_cells {W : World} {g : Nat} {u0 u1 u2 u3 u4 : Value} (h : ∀ j, j < 5 → (W.cell? ⟨g, j, none⟩).isSome = true) :
    (set5 W g u0 u1 u2 u3 u4).cell? ⟨g, 0, none⟩ = some u0 ∧ (set5 W g u0 u1 u2 u3 u4).cell? ⟨g, 1, none⟩ = some u1 ∧ (set5 W g u0 u1 u2 u3 u4).cell? ⟨g, 2, none⟩ = some u2 ∧ (set5 W g u0 u1 u2 u3 u4).cell? ⟨g, 3, none⟩ = some u3 ∧ (set5 W g u0 u1 u2 u3 u4).cell? ⟨g, 4, none⟩ = some u4 := by
  unfold set5
  refine ⟨?_, ?_, ?_, ?_, ?_⟩
  · rw [cell_other (by decide), cell_other (by decide), cell_other (by decide), cell_other (by decide)]; exact cell_same (h 0 (by decide))
  · rw [cell_other (by decide), cell_other (by decide), cell_other (by decide)]; exact cell_same (by rw [cell_other (by decide)]; exact h 1 (by decide))
  · rw [cell_other (by decide), cell_other (by decide)]; exact cell_same (by rw [cell_other (by decide), cell_other (by decide)]; exact h 2 (by decide))
  · rw [cell_other (by decide)]; exact cell_same (by rw [cell_other (by decide), cell_other (by decide), cell_other (by decide)]; exact h 3 (by decide))
  · exact cell_same (by rw [cell_other (by decide), cell_other (by decide), cell_other (by decide), cell_other (by decide)]; exact h 4 (by decide))
theorem set5_heap (W : World) (g k : Nat) (u0 u1 u2 u3 u4 : Value) (h : k ≠ g) : (set5 W g u0 u1 u2 u3 u4).heap[k]? = W.heap[k]? := by
  unfold set5
  rw [Below.heap_setCell _ _ _ _ (by exact h), Below.heap_setCell _ _ _ _ (by exact h), Below.heap_setCell _ _ _ _ (by exact h), Below.heap_setCell _ _ _ _ (by exact h), Below.heap_setCell _ _ _ _ (by exact h)]
theorem set5_size (W : World) (g : Nat) (u0 u1 u2 u3 u4 : Value) : (set5 W g u0 u1 u2 u3 u4).heap.size = W.heap.size := by unfold set5; simp
theorem set5_below {B : Nat} {w W : World} {g : Nat} {u0 u1 u2 u3 u4 : Value} (h : Below B w W) (hg : B ≤ g) : Below B w (set5 W g u0 u1 u2 u3 u4) :=
  ((((h.setCell (p := ⟨g, 0, none⟩) hg _).setCell (p := ⟨g, 1, none⟩) hg _).setCell (p := ⟨g, 2, none⟩) hg _).setCell (p := ⟨g, 3, none⟩) hg _).setCell (p := ⟨g, 4, none⟩) hg _

set_option maxHeartbeats 800000 in
set_option maxRecDepth 100000 in
theorem copied_any (m : Mg) (P : Nat → Prop) (w : World) (h : MgR w P m) (hP : ∀ i, P i → i < w.heap.size) (hf : Fits m) :
    Calls Try.prog 52 #[.agg (mc m).toArray] w fun r w' => ∃ m', r = .returned (.agg (mc m').toArray) ∧ mkey m' = mkey m ∧ MgR w' (fun i => w.heap.size ≤ i ∧ i < w'.heap.size) m' ∧ Fits m' ∧ Below w.heap.size w w' := by
  obtain ⟨kind, from_, to_, VA, vn, vc, vec, EA, en, ecap, evs⟩ := m
  obtain ⟨hv, ⟨hv1, hv2, hv3⟩, he, he1, he2, he3⟩ := h
  obtain ⟨hf1, hf2, hf3⟩ := hf
  simp only at hv hv1 hv2 hv3 he he1 he2 he3 hf1 hf2 hf3
  obtain ⟨W0, hW0⟩ : ∃ W0, W0 = (w.alloc (.cells #[.int .i64 kind, .int .i64 from_, .int .i64 to_, .slice VA vn vc, .slice EA en ecap] 54)).alloc (.cells #[.int .i64 0, .int .i64 0, .int .i64 0, .slice none 0 0, .slice none 0 0] 54) := ⟨_, rfl⟩
  have k0 : Below w.heap.size w W0 := by rw [hW0]; exact ((Below.refl _ _).alloc (Nat.le_refl _) _).alloc (by simp) _
  have z0 : W0.heap.size = w.heap.size + 2 := by rw [hW0]; simp
  have bx : ∀ j u, [Value.int .i64 kind, .int .i64 from_, .int .i64 to_, .slice VA vn vc, .slice EA en ecap][j]? = some u → W0.cell? ⟨w.heap.size, j, none⟩ = some u := by
    intro j u hu
    rw [hW0, World.cell?_alloc_past _ _ _ (by simp), World.cell?_alloc_at _ _ _ _ rfl]
    simpa using hu
  have rx : ∀ j u, [Value.int .i64 0, .int .i64 0, .int .i64 0, .slice none 0 0, .slice none 0 0][j]? = some u → W0.cell? ⟨w.heap.size + 1, j, none⟩ = some u := by
    intro j u hu
    rw [hW0, World.cell?_alloc_at _ _ _ _ (by simp)]
    simpa using hu
  have fx : ∀ g j, g = w.heap.size ∨ g = w.heap.size + 1 → W0.frozen? ⟨g, j, none⟩ = false := by
    intro g j hg
    rw [hW0]
    rcases hg with rfl | rfl
    · rw [World.frozen?_alloc_past _ _ _ (by simp)]; exact World.frozen?_alloc_at _ _ _ j rfl
    · exact World.frozen?_alloc_at _ _ _ j (by simp)
  have hv0 : RN W0 P VA vn vec := hv.keep fun i hi => k0.block i (hP i hi)
  have hP0 : ∀ i, P i → i < W0.heap.size := fun i hi => Nat.lt_of_lt_of_le (hP i hi) k0.size
  go_enter Try.func52, Try.ntmps52
  simp only [mc]
  go_wp2_with fail
  rw [← hW0]
  refine (cloneInts_any P VA vn vc vec W0 hv0 hP0 hf1 (fun e => ⟨by have := hv3 e; omega, hv3 e⟩)).mono ?_
  rintro e w1 ⟨v1, rfl, o1, b1⟩
  obtain ⟨V1, d1, rfl, hd1, hd1', _⟩ := own_form o1
  have p3 := (b1.cell (p := ⟨w.heap.size, 3, none⟩) (by show w.heap.size < _; omega)).trans (bx 3 _ rfl)
  have p4 := (b1.cell (p := ⟨w.heap.size, 4, none⟩) (by show w.heap.size < _; omega)).trans (bx 4 _ rfl)
  have f3 := (froz_below b1 ⟨w.heap.size, 3, none⟩ (by show w.heap.size < _; omega)).trans (fx _ 3 (.inl rfl))
  have f4 := (froz_below b1 ⟨w.heap.size, 4, none⟩ (by show w.heap.size < _; omega)).trans (fx _ 4 (.inl rfl))
  have BX := Lib.hid bx
  have RX := Lib.hid rx
  have FX := Lib.hid fx
  clear bx rx fx hW0 hv0
  go_wp2_with fail
  obtain ⟨w2, hw2⟩ : ∃ W, W = w1.setCell ⟨w.heap.size, 3, none⟩ (.slice V1 vn d1) := ⟨_, rfl⟩
  have z2 : w2.heap.size = w1.heap.size := by rw [hw2]; simp
  have b2 : Below w.heap.size w w2 := by rw [hw2]; exact (next_below k0 b1).setCell (p := ⟨w.heap.size, 3, none⟩) (Nat.le_refl _) _
  have o2 : w2.ownsRow W0.heap.size 3 1 (.slice V1 vn d1) vn (ints vec) := by rw [hw2]; exact ownsRow_setCell_below o1 (a := ⟨w.heap.size, 3, none⟩) (by show w.heap.size < _; omega) _
  have c2 : ∀ j u, [Value.int .i64 kind, .int .i64 from_, .int .i64 to_, .slice V1 vn d1, .slice EA en ecap][j]? = some u → w2.cell? ⟨w.heap.size, j, none⟩ = some u := by
    intro j u hu
    rw [hw2]
    by_cases hj : j = 3
    · subst hj
      simp at hu
      subst hu
      exact World.cell?_setCell_same _ _ _ p3
    · refine (World.cell?_setCell_other _ _ _ _ (by simp; try omega)).trans ?_
      refine (b1.cell (p := ⟨w.heap.size, j, none⟩) (by show w.heap.size < _; omega)).trans (BX.out j u ?_)
      have hl : j < 5 := (List.getElem?_eq_some_iff.1 hu).1
      match j, hl, hj with
      | 0, _, _ => exact hu
      | 1, _, _ => exact hu
      | 2, _, _ => exact hu
      | 3, _, hj => exact absurd rfl hj
      | 4, _, _ => exact hu
  have r2 : ∀ j u, [Value.int .i64 0, .int .i64 0, .int .i64 0, .slice none 0 0, .slice none 0 0][j]? = some u → w2.cell? ⟨w.heap.size + 1, j, none⟩ = some u := by
    intro j u hu
    rw [hw2]
    exact (World.cell?_setCell_other _ _ _ _ (by simp)).trans ((b1.cell (p := ⟨w.heap.size + 1, j, none⟩) (by show w.heap.size + 1 < _; omega)).trans (RX.out j u hu))
  have f2 : ∀ g j, g = w.heap.size ∨ g = w.heap.size + 1 → w2.frozen? ⟨g, j, none⟩ = false := by
    intro g j hg
    rw [hw2, World.frozen?_setCell]
    exact (froz_below b1 ⟨g, j, none⟩ (by show g < _; omega)).trans (FX.out g j hg)
  have he2' : Reads w2 P 10 EA en (ecs evs) := Reads.keep he.1 fun i hi => b2.block i (hP i hi)
  have zz1 := b1.size
  rw [← hw2]
  clear hw2 p3 p4 f3 f4 o1 b1
  refine (cloneEvs_any P EA en ecap evs w2 he2' (fun i hi => Nat.lt_of_lt_of_le (hP i hi) b2.size) hf2 (fun e => ⟨by have := he3 e; omega, he3 e⟩)).mono ?_
  rintro e w3 ⟨v3, rfl, o3, b3⟩
  obtain ⟨E1, e1, rfl, hE1, hE1', _⟩ := own_form o3
  have p4 := (b3.cell (p := ⟨w.heap.size, 4, none⟩) (by show w.heap.size < _; omega)).trans (c2 4 _ rfl)
  have f4 := (froz_below b3 ⟨w.heap.size, 4, none⟩ (by show w.heap.size < _; omega)).trans (f2 _ 4 (.inl rfl))
  have C2 := Lib.hid c2
  have R2 := Lib.hid r2
  have F2 := Lib.hid f2
  clear c2 r2 f2 he2'
  obtain ⟨w4, hw4⟩ : ∃ W, W = w3.setCell ⟨w.heap.size, 4, none⟩ (.slice E1 en e1) := ⟨_, rfl⟩
  have z4 : w4.heap.size = w3.heap.size := by rw [hw4]; simp
  have z3 := b3.size
  have b4 : Below w.heap.size w w4 := by rw [hw4]; exact (next_below b2 b3).setCell (p := ⟨w.heap.size, 4, none⟩) (Nat.le_refl _) _
  have oV : w4.ownsRow W0.heap.size 3 1 (.slice V1 vn d1) vn (ints vec) := by rw [hw4]; exact ownsRow_setCell_below (own_below o2 b3) (a := ⟨w.heap.size, 4, none⟩) (by show w.heap.size < _; omega) _
  have oE : w4.ownsRow w2.heap.size 37 10 (.slice E1 en e1) en (ecs evs) := by rw [hw4]; exact ownsRow_setCell_below o3 (a := ⟨w.heap.size, 4, none⟩) (by show w.heap.size < _; omega) _
  have c4 : ∀ j u, [Value.int .i64 kind, .int .i64 from_, .int .i64 to_, .slice V1 vn d1, .slice E1 en e1][j]? = some u → w4.cell? ⟨w.heap.size, j, none⟩ = some u := by
    intro j u hu
    rw [hw4]
    by_cases hj : j = 4
    · subst hj
      simp at hu
      subst hu
      exact World.cell?_setCell_same _ _ _ p4
    · refine (World.cell?_setCell_other _ _ _ _ (by simp; try omega)).trans ?_
      refine (b3.cell (p := ⟨w.heap.size, j, none⟩) (by show w.heap.size < _; omega)).trans (C2.out j u ?_)
      have hl : j < 5 := (List.getElem?_eq_some_iff.1 hu).1
      match j, hl, hj with
      | 0, _, _ => exact hu
      | 1, _, _ => exact hu
      | 2, _, _ => exact hu
      | 3, _, _ => exact hu
      | 4, _, hj => exact absurd rfl hj
  have r4 : ∀ j u, [Value.int .i64 0, .int .i64 0, .int .i64 0, .slice none 0 0, .slice none 0 0][j]? = some u → w4.cell? ⟨w.heap.size + 1, j, none⟩ = some u := by
    intro j u hu
    rw [hw4]
    exact (World.cell?_setCell_other _ _ _ _ (by simp)).trans ((b3.cell (p := ⟨w.heap.size + 1, j, none⟩) (by show w.heap.size + 1 < _; omega)).trans (R2.out j u hu))
  have f4' : ∀ g j, g = w.heap.size ∨ g = w.heap.size + 1 → w4.frozen? ⟨g, j, none⟩ = false := by
    intro g j hg
    rw [hw4, World.frozen?_setCell]
    exact (froz_below b3 ⟨g, j, none⟩ (by show g < _; omega)).trans (F2.out g j hg)
  have ltV := o2.lt
  have q4 := c4 4 _ rfl
  have HW4 := Lib.hid hw4
  have C4 := Lib.hid c4
  have R4 := Lib.hid r4
  have F4 := Lib.hid f4'
  clear hw4 c4 r4 f4' o2 o3 b3
  go_upto_region 3 with fail
  rw [← HW4.out]
  go_wp2
  go_loopw [15] (fun i wr => ∃ (k : Nat) (L : List Ev), k ≤ en ∧ i = .int .i64 k ∧ wr.ownsRow w2.heap.size 37 10 (.slice E1 en e1) en (ecs L) ∧ L.map ekey = evs.map ekey ∧ (∀ (j : Nat) (r : Ev), j < k → L[j]? = some r → EvR wr (fun i => W0.heap.size ≤ i ∧ i < wr.heap.size ∧ some i ≠ (Value.slice E1 en e1).ownBlock) r ∧ r.n ≤ 1099511627000) ∧
      (∀ (j : Nat), k ≤ j → L[j]? = evs[j]?) ∧ wr.ownsRow W0.heap.size 3 1 (.slice V1 vn d1) vn (ints vec) ∧ Below W0.heap.size w4 wr) (fun i _ => en - (intOf i).toNat)
  case atStart => exact ⟨0, evs, by omega, rfl, oE, rfl, fun j r hj => by omega, fun j _ => rfl, oV, Below.refl _ _⟩
  case round =>
    clear oE oV q4
    obtain ⟨k, L, hk, rfl, oE, hkeys, hdone, hrest, oV, hB⟩ := hrel
    have hsz := hB.size
    have hLl : L.length = en := by have := oE.1; rw [ecs_length] at this; omega
    by_cases hlt : k < en
    · obtain ⟨gE, eE, hEq, _, _, hgE, hgE2⟩ := own_at oE (by omega)
      cases hEq
      obtain ⟨r, hr⟩ : ∃ r, L[k]? = some r := ⟨_, List.getElem?_eq_getElem (by rw [hLl]; exact hlt)⟩
      have hmem : r ∈ evs := List.mem_of_getElem? ((hrest k (Nat.le_refl _)).symm.trans hr)
      have her := he.2 r hmem
      have hrn := hf3 r hmem
      have q4 := (hB.cell (p := ⟨w.heap.size, 4, none⟩) (by show w.heap.size < _; omega)).trans (C4.out 4 _ rfl)
      have d3 : wr.cell? ⟨gE, k * 10 + 3, none⟩ = some (.slice r.A r.n r.c) := by
        have := Reads.cell (own_reads oE) rfl (j := k * 10 + 3) (u := .slice r.A r.n r.c) (by rw [ecs_get L k 3 r hr (by decide)]; rfl)
        rwa [Nat.zero_add] at this
      have fr3 := own_froz oE (k * 10 + 3)
      have hwW : ∀ W, Below wr.heap.size wr W → Below w.heap.size w W := fun W h => (b4.trans (hB.mono k0.size)).trans (h.mono (by have := k0.size; omega))
      have hT1 : ∀ W, Below wr.heap.size wr W → Calls Try.prog 60 #[.slice r.A r.n r.c] W fun e w' => ∃ A' c', e = .returned (.slice A' r.n c') ∧ r.n ≤ c' ∧ c' ≤ 9223372036854775807 ∧ (A' = none → c' = 0) ∧ w'.ownsRow wr.heap.size 3 1 (.slice A' r.n c') r.n (ints r.deps) ∧ Below wr.heap.size wr w' := fun W h => by
        refine (cloneInts_any P r.A r.n r.c r.deps W (her.1.keep fun i hi => (hwW W h).block i (hP i hi)) (fun i hi => Nat.lt_of_lt_of_le (hP i hi) (hwW W h).size) hrn (fun e => ⟨by have h1 := her.2.2.2 e; have h2 := her.2.1; omega, her.2.2.2 e⟩)).mono ?_
        rintro e w' ⟨v, rfl, h2, h3⟩
        obtain ⟨A', c', rfl, h4, h5, _⟩ := own_form h2
        exact ⟨A', c', rfl, h4, h5, own_nil h2, own_base h2 h.size, next_below h h3⟩
      have T1 := Lib.hid hT1
      have hD : ∀ W, Below wr.heap.size wr W → W.cell? ⟨w.heap.size, 4, none⟩ = some (.slice (some ⟨gE, 0, none⟩) en e1) ∧ W.cell? ⟨gE, k * 10 + 3, none⟩ = some (.slice r.A r.n r.c) ∧ W.frozen? ⟨gE, k * 10 + 3, none⟩ = false := fun W h =>
        ⟨(h.cell (p := ⟨w.heap.size, 4, none⟩) (by show w.heap.size < _; omega)).trans q4, (h.cell (p := ⟨gE, k * 10 + 3, none⟩) hgE2).trans d3, (froz_below h ⟨gE, k * 10 + 3, none⟩ hgE2).trans fr3⟩
      have D := Lib.hid hD
      have hgg : gE ≠ w.heap.size := by omega
      have G0 : Below wr.heap.size wr wr := Below.refl _ _
      have hk0 : (0 : Int) ≤ (k : Int) := by omega
      have hk1 : (k : Int) < (en : Int) := by omega
      have HR := Lib.hid hr
      have HRN := Lib.hid hrn
      clear hT1 hD hr fr3 hwW her hrn hmem
      go_wp2_with fail
      go_region_law (go_simp; go_at_call 60; with_reducible refine Calls.mono (T1.out _ ?_) ?_; (first | assumption | exact Below.drew (by assumption)); rintro e w' ⟨A', c', rfl, hA1, hA2, hA3, hO, hG⟩; obtain ⟨q9, q3, q5⟩ := D.out w' hG)
      all_goals
        (have z' := hG.size
         have Z5 : (w'.setCell ⟨gE, k * 10 + 3, none⟩ (.slice A' r.n c')).heap.size = w'.heap.size := by simp
         have hp5 : ∀ i, i ≠ gE → (w'.setCell ⟨gE, k * 10 + 3, none⟩ (.slice A' r.n c')).heap[i]? = w'.heap[i]? := fun i hi => Below.heap_setCell _ _ _ _ (by exact hi)
         have oE5 := own_setv (k := k * 10 + 3) (own_below oE hG) (.slice A' r.n c')
         rw [ecs_set L k r HR.out A' c'] at oE5
         have keys5 := (keys_set L k r HR.out A' c').trans hkeys
         have oV5 : (w'.setCell ⟨gE, k * 10 + 3, none⟩ (.slice A' r.n c')).ownsRow W0.heap.size 3 1 (.slice V1 vn d1) vn (ints vec) :=
           ownsRow_setCell_other (own_below oV hG) (a := ⟨gE, k * 10 + 3, none⟩) (fun e => by have h1 := (ltV _ e).2; have h2 : gE < w2.heap.size := h1; omega) _
         have B5 : Below W0.heap.size w4 (w'.setCell ⟨gE, k * 10 + 3, none⟩ (.slice A' r.n c')) := (hB.trans (hG.mono (by have := b2.size; omega))).setCell (p := ⟨gE, k * 10 + 3, none⟩) (by show W0.heap.size ≤ gE; omega) _
         have rest5 : ∀ (j : Nat), k + 1 ≤ j → (L.set k (moved r A' c'))[j]? = evs[j]? := fun j hj => by rw [List.getElem?_set_ne (by omega)]; exact hrest j (by omega)
         have done5 : ∀ (j : Nat) (s : Ev), j < k + 1 → (L.set k (moved r A' c'))[j]? = some s → EvR (w'.setCell ⟨gE, k * 10 + 3, none⟩ (.slice A' r.n c')) (fun i => W0.heap.size ≤ i ∧ i < (w'.setCell ⟨gE, k * 10 + 3, none⟩ (.slice A' r.n c')).heap.size ∧ some i ≠ (Value.slice (some ⟨gE, 0, none⟩) en e1).ownBlock) s ∧ s.n ≤ 1099511627000 := by
           intro j s hj hs
           by_cases hjk : j = k
           · subst hjk
             rw [List.getElem?_set_self (by rw [hLl]; exact hlt)] at hs
             cases hs
             refine ⟨⟨?_, hA1, hA2, hA3⟩, HRN.out⟩
             have hr1 : RN w' (fun i => wr.heap.size ≤ i ∧ i < w'.heap.size) A' r.n r.deps := own_reads hO
             refine (hr1.keep fun i hi => hp5 i (by omega)).more fun i hi => ⟨by omega, by rw [Z5]; exact hi.2, fun e => ?_⟩
             have e2 : i = gE := Option.some.inj e
             omega
           · rw [List.getElem?_set_ne (by omega)] at hs
             obtain ⟨h1, h2⟩ := hdone j s (by omega) hs
             refine ⟨(h1.keep fun i hi => ?_).more fun i hi => ⟨hi.1, by rw [Z5]; omega, hi.2.2⟩, h2⟩
             rw [hp5 i (fun e => hi.2.2 (by rw [e]; rfl))]
             exact hG.block i hi.2.1
         have O1 := Lib.hid keys5
         have O2 := Lib.hid done5
         have O3 := Lib.hid rest5
         clear keys5 done5 rest5 hp5 Z5 oE hkeys hdone hrest oV q4 d3 q3 q5 hO
         go_wp2
         go_roundw
         case rel => exact ⟨k + 1, L.set k (moved r A' c'), by omega, by go_num, oE5, O1.out, O2.out, O3.out, oV5, B5⟩
         case measure => simp [intOf]; omega)
    · obtain rfl : en = k := by omega
      have cb : ∀ j u, [Value.int .i64 kind, .int .i64 from_, .int .i64 to_, .slice V1 vn d1, .slice E1 en e1][j]? = some u → wr.cell? ⟨w.heap.size, j, none⟩ = some u := fun j u hu => (hB.cell (p := ⟨w.heap.size, j, none⟩) (by show w.heap.size < _; omega)).trans (C4.out j u hu)
      have rb : ∀ j u, [Value.int .i64 0, .int .i64 0, .int .i64 0, .slice none 0 0, .slice none 0 0][j]? = some u → wr.cell? ⟨w.heap.size + 1, j, none⟩ = some u := fun j u hu => (hB.cell (p := ⟨w.heap.size + 1, j, none⟩) (by show w.heap.size + 1 < _; omega)).trans (R4.out j u hu)
      have fb : ∀ j, wr.frozen? ⟨w.heap.size + 1, j, none⟩ = false := fun j => (froz_below hB ⟨w.heap.size + 1, j, none⟩ (by show w.heap.size + 1 < _; omega)).trans (F4.out _ j (.inr rfl))
      have q0 := cb 0 _ rfl
      have q1 := cb 1 _ rfl
      have q2 := cb 2 _ rfl
      have q3 := cb 3 _ rfl
      have q4 := cb 4 _ rfl
      have t0 := rb 0 _ rfl
      have t1 := rb 1 _ rfl
      have t2 := rb 2 _ rfl
      have t3 := rb 3 _ rfl
      have t4 := rb 4 _ rfl
      have g0 := fb 0
      have g1 := fb 1
      have g2 := fb 2
      have g3 := fb 3
      have g4 := fb 4
      obtain ⟨y0, y1, y2, y3, y4⟩ := set5_cells (W := wr) (g := w.heap.size + 1) (u0 := .int .i64 kind) (u1 := .int .i64 from_) (u2 := .int .i64 to_) (u3 := .slice V1 vn d1) (u4 := .slice E1 en e1) (fun j hj => by
        match j, hj with
        | 0, _ => rw [t0]; rfl
        | 1, _ => rw [t1]; rfl
        | 2, _ => rw [t2]; rfl
        | 3, _ => rw [t3]; rfl
        | 4, _ => rw [t4]; rfl)
      have hh := fun i (hi : i ≠ w.heap.size + 1) => set5_heap wr (w.heap.size + 1) i (.int .i64 kind) (.int .i64 from_) (.int .i64 to_) (.slice V1 vn d1) (.slice E1 en e1) hi
      have hs5 := set5_size wr (w.heap.size + 1) (.int .i64 kind) (.int .i64 from_) (.int .i64 to_) (.slice V1 vn d1) (.slice E1 en e1)
      have B6 : Below w.heap.size w (set5 wr (w.heap.size + 1) (.int .i64 kind) (.int .i64 from_) (.int .i64 to_) (.slice V1 vn d1) (.slice E1 en e1)) := set5_below (b4.trans (hB.mono k0.size)) (by omega)
      have vnil : V1 = none → d1 = 0 := own_nil oV
      have enil : E1 = none → e1 = 0 := own_nil oE
      have hL2 : ∀ r ∈ L, EvR wr (fun i => W0.heap.size ≤ i ∧ i < wr.heap.size ∧ some i ≠ (Value.slice E1 en e1).ownBlock) r ∧ r.n ≤ 1099511627000 := by
        intro r hr
        obtain ⟨j, hj, hjr⟩ := List.getElem_of_mem hr
        exact hdone j r (by omega) (by rw [List.getElem?_eq_getElem hj, hjr])
      have mg : MgR (set5 wr (w.heap.size + 1) (.int .i64 kind) (.int .i64 from_) (.int .i64 to_) (.slice V1 vn d1) (.slice E1 en e1)) (fun i => w.heap.size ≤ i ∧ i < (set5 wr (w.heap.size + 1) (.int .i64 kind) (.int .i64 from_) (.int .i64 to_) (.slice V1 vn d1) (.slice E1 en e1)).heap.size) ⟨kind, from_, to_, V1, vn, d1, vec, E1, en, e1, L⟩ := by
        refine ⟨?_, ⟨hd1, hd1', vnil⟩, ⟨?_, fun r hr => ?_⟩, hE1, hE1', enil⟩
        · exact ((show RN wr _ V1 vn vec from own_reads oV).keep fun i hi => hh i (by omega)).more fun i hi => ⟨by omega, by rw [hs5]; exact hi.2⟩
        · exact Reads.more (Reads.keep (own_reads oE) fun i hi => hh i (by have := b2.size; omega)) fun i hi => ⟨by have := b2.size; omega, by rw [hs5]; exact hi.2⟩
        · exact ((hL2 r hr).1.keep fun i hi => hh i (by omega)).more fun i hi => ⟨by omega, by rw [hs5]; exact hi.2.1⟩
      have hkk : mkey ⟨kind, from_, to_, V1, vn, d1, vec, E1, en, e1, L⟩ = mkey ⟨kind, from_, to_, VA, vn, vc, vec, EA, en, ecap, evs⟩ := by simp only [mkey, hkeys]
      have ft : Fits ⟨kind, from_, to_, V1, vn, d1, vec, E1, en, e1, L⟩ := ⟨hf1, hf2, fun r hr => (hL2 r hr).2⟩
      have M1 := Lib.hid mg
      have M2 := Lib.hid hkk
      have M3 := Lib.hid ft
      clear mg hkk ft hL2 hkeys hdone hrest cb rb fb hh
      go_wp2
      refine bodyPost_ret (v := .agg #[.int .i64 kind, .int .i64 from_, .int .i64 to_, .slice V1 vn d1, .slice E1 en e1]) ?_ rfl ?_
      · unfold set5 at y0 y1 y2 y3 y4
        simp [results, Try.results52, go_sem, y0, y1, y2, y3, y4]
      exact ⟨⟨kind, from_, to_, V1, vn, d1, vec, E1, en, e1, L⟩, rfl, M2.out, M1.out, M3.out, B6⟩
end Go.Proofs.Ytcidmlpjobdakaa
