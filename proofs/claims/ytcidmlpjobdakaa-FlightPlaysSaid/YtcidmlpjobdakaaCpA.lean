/- Messages in memory of their own, that may be written over: copied, Look. -/
import Derived.Test.YtcidmlpjobdakaaMgI
import Derived.Test.YtcidmlpjobdakaaSpB
import Derived.OneCell
import Derived.Deep.RegionHeld3
import Derived.Deep.CutRange
import Derived.Deep.RegionLaw
namespace Go.Proofs.Ytcidmlpjobdakaa
set_option linter.unusedSimpArgs false
set_option linter.unusedVariables false
set_option linter.unnecessarySimpa false
open Go.RowKit

/-- A message whose lists lie between two places of memory, in blocks that may be written; its list of events lies apart from what else it holds. -/
structure MgIn (w : World) (n₀ M : Nat) (m : Mg) : Prop where
  vec : RN w (fun i => n₀ ≤ i ∧ i < M ∧ CellsAt w i ∧ some i ≠ (Value.slice m.EA m.en m.ecap).ownBlock) m.VA m.vn m.vec
  evs : Reads w (fun i => n₀ ≤ i ∧ i < M ∧ CellsAt w i) 10 m.EA m.en (ecs m.evs)
  deps : ∀ e ∈ m.evs, EvR w (fun i => n₀ ≤ i ∧ i < M ∧ CellsAt w i ∧ some i ≠ (Value.slice m.EA m.en m.ecap).ownBlock) e
  nums : (m.vn ≤ m.vc ∧ m.vc ≤ 9223372036854775807 ∧ (m.VA = none → m.vc = 0)) ∧ m.en ≤ m.ecap ∧ m.ecap ≤ 9223372036854775807 ∧ (m.EA = none → m.ecap = 0)
  fits : Fits m
theorem MgIn.keep {w w' : World} {n₀ M : Nat} {m : Mg} (h : MgIn w n₀ M m) (hh : ∀ i, n₀ ≤ i → i < M → w'.heap[i]? = w.heap[i]?) : MgIn w' n₀ M m :=
  ⟨(h.vec.keep fun i hi => hh i hi.1 hi.2.1).more fun i hi => ⟨hi.1, hi.2.1, hi.2.2.1.keep (hh i hi.1 hi.2.1), hi.2.2.2⟩,
   Reads.more (Reads.keep h.evs fun i hi => hh i hi.1 hi.2.1) fun i hi => ⟨hi.1, hi.2.1, hi.2.2.keep (hh i hi.1 hi.2.1)⟩,
   fun e he => ((h.deps e he).keep fun i hi => hh i hi.1 hi.2.1).more fun i hi => ⟨hi.1, hi.2.1, hi.2.2.1.keep (hh i hi.1 hi.2.1), hi.2.2.2⟩, h.nums, h.fits⟩
theorem MgIn.wide {w : World} {n₀ n₁ M M' : Nat} {m : Mg} (h : MgIn w n₀ M m) (hn : n₁ ≤ n₀) (hM : M ≤ M') : MgIn w n₁ M' m :=
  ⟨h.vec.more fun i hi => ⟨by omega, by omega, hi.2.2⟩, Reads.more h.evs fun i hi => ⟨by omega, by omega, hi.2.2⟩, fun e he => (h.deps e he).more fun i hi => ⟨by omega, by omega, hi.2.2⟩, h.nums, h.fits⟩
theorem MgIn.mg {w : World} {n₀ M : Nat} {m : Mg} (h : MgIn w n₀ M m) : MgR w (fun i => n₀ ≤ i ∧ i < M) m :=
  ⟨h.vec.more fun i hi => ⟨hi.1, hi.2.1⟩, h.nums.1, ⟨Reads.more h.evs fun i hi => ⟨hi.1, hi.2.1⟩, fun e he => (h.deps e he).more fun i hi => ⟨hi.1, hi.2.1⟩⟩, h.nums.2⟩
theorem MgIn.below {w w' : World} {n₀ M : Nat} {m : Mg} (h : MgIn w n₀ M m) (hb : Below w.heap.size w w') (hM : M ≤ w.heap.size) : MgIn w' n₀ M m := h.keep fun i _ hi => hb.block i (by omega)
theorem own_soft' {w : World} {base : Nat} {e : TypeId} {size : Nat} {A : Option Addr} {n c : Nat} {xs : List Value} (h : w.ownsRow base e size (.slice A n c) n xs) : Reads w (fun i => (Value.slice A n c).ownBlock = some i ∧ base ≤ i ∧ i < w.heap.size ∧ CellsAt w i) size A n xs :=
  (Reads.of_own h).more fun i hi => by
    have hb : (Value.slice A n c).ownBlock = some i := by cases A <;> exact hi
    exact ⟨hb, (h.lt i hb).1, (h.lt i hb).2, own_cellsAt h hb⟩

set_option maxHeartbeats 800000 in
set_option maxRecDepth 100000 in
theorem copied_in (m : Mg) (P : Nat → Prop) (w : World) (h : MgR w P m) (hP : ∀ i, P i → i < w.heap.size) (hf : Fits m) :
    Calls Try.prog 52 #[.agg (mc m).toArray] w fun r w' => ∃ m', r = .returned (.agg (mc m').toArray) ∧ mkey m' = mkey m ∧ MgIn w' w.heap.size w'.heap.size m' ∧ Below w.heap.size w w' := by
  obtain ⟨kind, from_, to_, VA, vn, vc, vec, EA, en, ecap, evs⟩ := m
  obtain ⟨hv, ⟨hv1, hv2, hv3⟩, he, he1, he2, he3⟩ := h
  obtain ⟨hf1, hf2, hf3⟩ := hf
  simp only at hv hv1 hv2 hv3 he he1 he2 he3 hf1 hf2 hf3
  obtain ⟨W0, hW0⟩ : ∃ W0, W0 = (w.alloc (.cells #[.int .i64 kind, .int .i64 from_, .int .i64 to_, .slice VA vn vc, .slice EA en ecap] 54)).alloc (.cells #[.int .i64 0, .int .i64 0, .int .i64 0, .slice none 0 0, .slice none 0 0] 54) := ⟨_, rfl⟩
  have k0 : Below w.heap.size w W0 := by rw [hW0]; exact ((Below.refl _ _).alloc (Nat.le_refl _) _).alloc (by simp) _
  have z0 : W0.heap.size = w.heap.size + 2 := by rw [hW0]; simp
  have bx : ∀ j u, [Value.int .i64 kind, .int .i64 from_, .int .i64 to_, .slice VA vn vc, .slice EA en ecap][j]? = some u → W0.cell? ⟨w.heap.size, j, none⟩ = some u := by
    intro j u hu
    rw [hW0, World.cell?_alloc_past _ _ _ (by simp), World.cell?_alloc_at _ _ _ _ rfl]
    simpa using hu
  have rx : ∀ j u, [Value.int .i64 0, .int .i64 0, .int .i64 0, .slice none 0 0, .slice none 0 0][j]? = some u → W0.cell? ⟨w.heap.size + 1, j, none⟩ = some u := by
    intro j u hu
    rw [hW0, World.cell?_alloc_at _ _ _ _ (by simp)]
    simpa using hu
  have fx : ∀ g j, g = w.heap.size ∨ g = w.heap.size + 1 → W0.frozen? ⟨g, j, none⟩ = false := by
    intro g j hg
    rw [hW0]
    rcases hg with rfl | rfl
    · rw [World.frozen?_alloc_past _ _ _ (by simp)]; exact World.frozen?_alloc_at _ _ _ j rfl
    · exact World.frozen?_alloc_at _ _ _ j (by simp)
  have hv0 : RN W0 P VA vn vec := hv.keep fun i hi => k0.block i (hP i hi)
  have hP0 : ∀ i, P i → i < W0.heap.size := fun i hi => Nat.lt_of_lt_of_le (hP i hi) k0.size
  go_enter Try.func52, Try.ntmps52
  simp only [mc]
  go_wp2_with fail
  rw [← hW0]
  refine (cloneInts_any P VA vn vc vec W0 hv0 hP0 hf1 (fun e => ⟨by have := hv3 e; omega, hv3 e⟩)).mono ?_
  rintro e w1 ⟨v1, rfl, o1, b1⟩
  obtain ⟨V1, d1, rfl, hd1, hd1', _⟩ := own_form o1
  have p3 := (b1.cell (p := ⟨w.heap.size, 3, none⟩) (by show w.heap.size < _; omega)).trans (bx 3 _ rfl)
  have p4 := (b1.cell (p := ⟨w.heap.size, 4, none⟩) (by show w.heap.size < _; omega)).trans (bx 4 _ rfl)
  have f3 := (froz_below b1 ⟨w.heap.size, 3, none⟩ (by show w.heap.size < _; omega)).trans (fx _ 3 (.inl rfl))
  have f4 := (froz_below b1 ⟨w.heap.size, 4, none⟩ (by show w.heap.size < _; omega)).trans (fx _ 4 (.inl rfl))
  have BX := Lib.hid bx
  have RX := Lib.hid rx
  have FX := Lib.hid fx
  clear bx rx fx hW0 hv0
  go_wp2_with fail
  obtain ⟨w2, hw2⟩ : ∃ W, W = w1.setCell ⟨w.heap.size, 3, none⟩ (.slice V1 vn d1) := ⟨_, rfl⟩
  have z2 : w2.heap.size = w1.heap.size := by rw [hw2]; simp
  have b2 : Below w.heap.size w w2 := by rw [hw2]; exact (next_below k0 b1).setCell (p := ⟨w.heap.size, 3, none⟩) (Nat.le_refl _) _
  have o2 : w2.ownsRow W0.heap.size 3 1 (.slice V1 vn d1) vn (ints vec) := by rw [hw2]; exact ownsRow_setCell_below o1 (a := ⟨w.heap.size, 3, none⟩) (by show w.heap.size < _; omega) _
  have c2 : ∀ j u, [Value.int .i64 kind, .int .i64 from_, .int .i64 to_, .slice V1 vn d1, .slice EA en ecap][j]? = some u → w2.cell? ⟨w.heap.size, j, none⟩ = some u := by
    intro j u hu
    rw [hw2]
    by_cases hj : j = 3
    · subst hj
      simp at hu
      subst hu
      exact World.cell?_setCell_same _ _ _ p3
    · refine (World.cell?_setCell_other _ _ _ _ (by simp; try omega)).trans ?_
      refine (b1.cell (p := ⟨w.heap.size, j, none⟩) (by show w.heap.size < _; omega)).trans (BX.out j u ?_)
      have hl : j < 5 := (List.getElem?_eq_some_iff.1 hu).1
      match j, hl, hj with
      | 0, _, _ => exact hu
      | 1, _, _ => exact hu
      | 2, _, _ => exact hu
      | 3, _, hj => exact absurd rfl hj
      | 4, _, _ => exact hu
  have r2 : ∀ j u, [Value.int .i64 0, .int .i64 0, .int .i64 0, .slice none 0 0, .slice none 0 0][j]? = some u → w2.cell? ⟨w.heap.size + 1, j, none⟩ = some u := by
    intro j u hu
    rw [hw2]
    exact (World.cell?_setCell_other _ _ _ _ (by simp)).trans ((b1.cell (p := ⟨w.heap.size + 1, j, none⟩) (by show w.heap.size + 1 < _; omega)).trans (RX.out j u hu))
  have f2 : ∀ g j, g = w.heap.size ∨ g = w.heap.size + 1 → w2.frozen? ⟨g, j, none⟩ = false := by
    intro g j hg
    rw [hw2, World.frozen?_setCell]
    exact (froz_below b1 ⟨g, j, none⟩ (by show g < _; omega)).trans (FX.out g j hg)
  have he2' : Reads w2 P 10 EA en (ecs evs) := Reads.keep he.1 fun i hi => b2.block i (hP i hi)
  have zz1 := b1.size
  rw [← hw2]
  clear hw2 p3 p4 f3 f4 o1 b1
  refine (cloneEvs_any P EA en ecap evs w2 he2' (fun i hi => Nat.lt_of_lt_of_le (hP i hi) b2.size) hf2 (fun e => ⟨by have := he3 e; omega, he3 e⟩)).mono ?_
  rintro e w3 ⟨v3, rfl, o3, b3⟩
  obtain ⟨E1, e1, rfl, hE1, hE1', _⟩ := own_form o3
  have p4 := (b3.cell (p := ⟨w.heap.size, 4, none⟩) (by show w.heap.size < _; omega)).trans (c2 4 _ rfl)
  have f4 := (froz_below b3 ⟨w.heap.size, 4, none⟩ (by show w.heap.size < _; omega)).trans (f2 _ 4 (.inl rfl))
  have C2 := Lib.hid c2
  have R2 := Lib.hid r2
  have F2 := Lib.hid f2
  clear c2 r2 f2 he2'
  obtain ⟨w4, hw4⟩ : ∃ W, W = w3.setCell ⟨w.heap.size, 4, none⟩ (.slice E1 en e1) := ⟨_, rfl⟩
  have z4 : w4.heap.size = w3.heap.size := by rw [hw4]; simp
  have z3 := b3.size
  have b4 : Below w.heap.size w w4 := by rw [hw4]; exact (next_below b2 b3).setCell (p := ⟨w.heap.size, 4, none⟩) (Nat.le_refl _) _
  have oV : w4.ownsRow W0.heap.size 3 1 (.slice V1 vn d1) vn (ints vec) := by rw [hw4]; exact ownsRow_setCell_below (own_below o2 b3) (a := ⟨w.heap.size, 4, none⟩) (by show w.heap.size < _; omega) _
  have oE : w4.ownsRow w2.heap.size 37 10 (.slice E1 en e1) en (ecs evs) := by rw [hw4]; exact ownsRow_setCell_below o3 (a := ⟨w.heap.size, 4, none⟩) (by show w.heap.size < _; omega) _
  have c4 : ∀ j u, [Value.int .i64 kind, .int .i64 from_, .int .i64 to_, .slice V1 vn d1, .slice E1 en e1][j]? = some u → w4.cell? ⟨w.heap.size, j, none⟩ = some u := by
    intro j u hu
    rw [hw4]
    by_cases hj : j = 4
    · subst hj
      simp at hu
      subst hu
      exact World.cell?_setCell_same _ _ _ p4
    · refine (World.cell?_setCell_other _ _ _ _ (by simp; try omega)).trans ?_
      refine (b3.cell (p := ⟨w.heap.size, j, none⟩) (by show w.heap.size < _; omega)).trans (C2.out j u ?_)
      have hl : j < 5 := (List.getElem?_eq_some_iff.1 hu).1
      match j, hl, hj with
      | 0, _, _ => exact hu
      | 1, _, _ => exact hu
      | 2, _, _ => exact hu
      | 3, _, _ => exact hu
      | 4, _, hj => exact absurd rfl hj
  have r4 : ∀ j u, [Value.int .i64 0, .int .i64 0, .int .i64 0, .slice none 0 0, .slice none 0 0][j]? = some u → w4.cell? ⟨w.heap.size + 1, j, none⟩ = some u := by
    intro j u hu
    rw [hw4]
    exact (World.cell?_setCell_other _ _ _ _ (by simp)).trans ((b3.cell (p := ⟨w.heap.size + 1, j, none⟩) (by show w.heap.size + 1 < _; omega)).trans (R2.out j u hu))
  have f4' : ∀ g j, g = w.heap.size ∨ g = w.heap.size + 1 → w4.frozen? ⟨g, j, none⟩ = false := by
    intro g j hg
    rw [hw4, World.frozen?_setCell]
    exact (froz_below b3 ⟨g, j, none⟩ (by show g < _; omega)).trans (F2.out g j hg)
  have ltV := o2.lt
  have q4 := c4 4 _ rfl
  have HW4 := Lib.hid hw4
  have C4 := Lib.hid c4
  have R4 := Lib.hid r4
  have F4 := Lib.hid f4'
  clear hw4 c4 r4 f4' o2 o3 b3
  go_upto_region 3 with fail
  rw [← HW4.out]
  go_wp2
  go_loopw [15] (fun i wr => ∃ (k : Nat) (L : List Ev), k ≤ en ∧ i = .int .i64 k ∧ wr.ownsRow w2.heap.size 37 10 (.slice E1 en e1) en (ecs L) ∧ L.map ekey = evs.map ekey ∧ (∀ (j : Nat) (r : Ev), j < k → L[j]? = some r → EvR wr (fun i => W0.heap.size ≤ i ∧ i < wr.heap.size ∧ CellsAt wr i ∧ some i ≠ (Value.slice E1 en e1).ownBlock) r ∧ r.n ≤ 1099511627000) ∧
      (∀ (j : Nat), k ≤ j → L[j]? = evs[j]?) ∧ wr.ownsRow W0.heap.size 3 1 (.slice V1 vn d1) vn (ints vec) ∧ Below W0.heap.size w4 wr) (fun i _ => en - (intOf i).toNat)
  case atStart => exact ⟨0, evs, by omega, rfl, oE, rfl, fun j r hj => by omega, fun j _ => rfl, oV, Below.refl _ _⟩
  case round =>
    clear oE oV q4
    obtain ⟨k, L, hk, rfl, oE, hkeys, hdone, hrest, oV, hB⟩ := hrel
    have hsz := hB.size
    have hLl : L.length = en := by have := oE.1; rw [ecs_length] at this; omega
    by_cases hlt : k < en
    · obtain ⟨gE, eE, hEq, _, _, hgE, hgE2⟩ := own_at oE (by omega)
      cases hEq
      obtain ⟨r, hr⟩ : ∃ r, L[k]? = some r := ⟨_, List.getElem?_eq_getElem (by rw [hLl]; exact hlt)⟩
      have hmem : r ∈ evs := List.mem_of_getElem? ((hrest k (Nat.le_refl _)).symm.trans hr)
      have her := he.2 r hmem
      have hrn := hf3 r hmem
      have q4 := (hB.cell (p := ⟨w.heap.size, 4, none⟩) (by show w.heap.size < _; omega)).trans (C4.out 4 _ rfl)
      have d3 : wr.cell? ⟨gE, k * 10 + 3, none⟩ = some (.slice r.A r.n r.c) := by
        have := Reads.cell (own_reads oE) rfl (j := k * 10 + 3) (u := .slice r.A r.n r.c) (by rw [ecs_get L k 3 r hr (by decide)]; rfl)
        rwa [Nat.zero_add] at this
      have fr3 := own_froz oE (k * 10 + 3)
      have hwW : ∀ W, Below wr.heap.size wr W → Below w.heap.size w W := fun W h => (b4.trans (hB.mono k0.size)).trans (h.mono (by have := k0.size; omega))
      have hT1 : ∀ W, Below wr.heap.size wr W → Calls Try.prog 60 #[.slice r.A r.n r.c] W fun e w' => ∃ A' c', e = .returned (.slice A' r.n c') ∧ r.n ≤ c' ∧ c' ≤ 9223372036854775807 ∧ (A' = none → c' = 0) ∧ w'.ownsRow wr.heap.size 3 1 (.slice A' r.n c') r.n (ints r.deps) ∧ Below wr.heap.size wr w' := fun W h => by
        refine (cloneInts_any P r.A r.n r.c r.deps W (her.1.keep fun i hi => (hwW W h).block i (hP i hi)) (fun i hi => Nat.lt_of_lt_of_le (hP i hi) (hwW W h).size) hrn (fun e => ⟨by have h1 := her.2.2.2 e; have h2 := her.2.1; omega, her.2.2.2 e⟩)).mono ?_
        rintro e w' ⟨v, rfl, h2, h3⟩
        obtain ⟨A', c', rfl, h4, h5, _⟩ := own_form h2
        exact ⟨A', c', rfl, h4, h5, own_nil h2, own_base h2 h.size, next_below h h3⟩
      have T1 := Lib.hid hT1
      have hD : ∀ W, Below wr.heap.size wr W → W.cell? ⟨w.heap.size, 4, none⟩ = some (.slice (some ⟨gE, 0, none⟩) en e1) ∧ W.cell? ⟨gE, k * 10 + 3, none⟩ = some (.slice r.A r.n r.c) ∧ W.frozen? ⟨gE, k * 10 + 3, none⟩ = false := fun W h =>
        ⟨(h.cell (p := ⟨w.heap.size, 4, none⟩) (by show w.heap.size < _; omega)).trans q4, (h.cell (p := ⟨gE, k * 10 + 3, none⟩) hgE2).trans d3, (froz_below h ⟨gE, k * 10 + 3, none⟩ hgE2).trans fr3⟩
      have D := Lib.hid hD
      have hgg : gE ≠ w.heap.size := by omega
      have G0 : Below wr.heap.size wr wr := Below.refl _ _
      have hk0 : (0 : Int) ≤ (k : Int) := by omega
      have hk1 : (k : Int) < (en : Int) := by omega
      have HR := Lib.hid hr
      have HRN := Lib.hid hrn
      clear hT1 hD hr fr3 hwW her hrn hmem
      go_wp2_with fail
      go_region_law (go_simp; go_at_call 60; with_reducible refine Calls.mono (T1.out _ ?_) ?_; (first | assumption | exact Below.drew (by assumption)); rintro e w' ⟨A', c', rfl, hA1, hA2, hA3, hO, hG⟩; obtain ⟨q9, q3, q5⟩ := D.out w' hG)
      all_goals
        (have z' := hG.size
         have Z5 : (w'.setCell ⟨gE, k * 10 + 3, none⟩ (.slice A' r.n c')).heap.size = w'.heap.size := by simp
         have hp5 : ∀ i, i ≠ gE → (w'.setCell ⟨gE, k * 10 + 3, none⟩ (.slice A' r.n c')).heap[i]? = w'.heap[i]? := fun i hi => Below.heap_setCell _ _ _ _ (by exact hi)
         have oE5 := own_setv (k := k * 10 + 3) (own_below oE hG) (.slice A' r.n c')
         rw [ecs_set L k r HR.out A' c'] at oE5
         have keys5 := (keys_set L k r HR.out A' c').trans hkeys
         have oV5 : (w'.setCell ⟨gE, k * 10 + 3, none⟩ (.slice A' r.n c')).ownsRow W0.heap.size 3 1 (.slice V1 vn d1) vn (ints vec) :=
           ownsRow_setCell_other (own_below oV hG) (a := ⟨gE, k * 10 + 3, none⟩) (fun e => by have h1 := (ltV _ e).2; have h2 : gE < w2.heap.size := h1; omega) _
         have B5 : Below W0.heap.size w4 (w'.setCell ⟨gE, k * 10 + 3, none⟩ (.slice A' r.n c')) := (hB.trans (hG.mono (by have := b2.size; omega))).setCell (p := ⟨gE, k * 10 + 3, none⟩) (by show W0.heap.size ≤ gE; omega) _
         have rest5 : ∀ (j : Nat), k + 1 ≤ j → (L.set k (moved r A' c'))[j]? = evs[j]? := fun j hj => by rw [List.getElem?_set_ne (by omega)]; exact hrest j (by omega)
         have done5 : ∀ (j : Nat) (s : Ev), j < k + 1 → (L.set k (moved r A' c'))[j]? = some s → EvR (w'.setCell ⟨gE, k * 10 + 3, none⟩ (.slice A' r.n c')) (fun i => W0.heap.size ≤ i ∧ i < (w'.setCell ⟨gE, k * 10 + 3, none⟩ (.slice A' r.n c')).heap.size ∧ CellsAt (w'.setCell ⟨gE, k * 10 + 3, none⟩ (.slice A' r.n c')) i ∧ some i ≠ (Value.slice (some ⟨gE, 0, none⟩) en e1).ownBlock) s ∧ s.n ≤ 1099511627000 := by
           intro j s hj hs
           by_cases hjk : j = k
           · subst hjk
             rw [List.getElem?_set_self (by rw [hLl]; exact hlt)] at hs
             cases hs
             refine ⟨⟨?_, hA1, hA2, hA3⟩, HRN.out⟩
             have hr1 : RN w' (fun i => wr.heap.size ≤ i ∧ i < w'.heap.size ∧ CellsAt w' i) A' r.n r.deps := own_soft hO
             refine (hr1.keep fun i hi => hp5 i (by omega)).more fun i hi => ⟨by omega, by rw [Z5]; exact hi.2.1, hi.2.2.keep (hp5 i (by omega)), fun e => ?_⟩
             have e2 : i = gE := Option.some.inj e
             omega
           · rw [List.getElem?_set_ne (by omega)] at hs
             obtain ⟨h1, h2⟩ := hdone j s (by omega) hs
             have hhi : ∀ i, (W0.heap.size ≤ i ∧ i < wr.heap.size ∧ CellsAt wr i ∧ some i ≠ (Value.slice (some ⟨gE, 0, none⟩) en e1).ownBlock) → (w'.setCell ⟨gE, k * 10 + 3, none⟩ (.slice A' r.n c')).heap[i]? = wr.heap[i]? := fun i hi => by
               rw [hp5 i (fun e => hi.2.2.2 (by rw [e]; rfl))]
               exact hG.block i hi.2.1
             exact ⟨(h1.keep hhi).more fun i hi => ⟨hi.1, by rw [Z5]; omega, hi.2.2.1.keep (hhi i hi), hi.2.2.2⟩, h2⟩
         have O1 := Lib.hid keys5
         have O2 := Lib.hid done5
         have O3 := Lib.hid rest5
         clear keys5 done5 rest5 hp5 Z5 oE hkeys hdone hrest oV q4 d3 q3 q5 hO
         go_wp2
         go_roundw
         case rel => exact ⟨k + 1, L.set k (moved r A' c'), by omega, by go_num, oE5, O1.out, O2.out, O3.out, oV5, B5⟩
         case measure => simp [intOf]; omega)
    · obtain rfl : en = k := by omega
      have cb : ∀ j u, [Value.int .i64 kind, .int .i64 from_, .int .i64 to_, .slice V1 vn d1, .slice E1 en e1][j]? = some u → wr.cell? ⟨w.heap.size, j, none⟩ = some u := fun j u hu => (hB.cell (p := ⟨w.heap.size, j, none⟩) (by show w.heap.size < _; omega)).trans (C4.out j u hu)
      have rb : ∀ j u, [Value.int .i64 0, .int .i64 0, .int .i64 0, .slice none 0 0, .slice none 0 0][j]? = some u → wr.cell? ⟨w.heap.size + 1, j, none⟩ = some u := fun j u hu => (hB.cell (p := ⟨w.heap.size + 1, j, none⟩) (by show w.heap.size + 1 < _; omega)).trans (R4.out j u hu)
      have fb : ∀ j, wr.frozen? ⟨w.heap.size + 1, j, none⟩ = false := fun j => (froz_below hB ⟨w.heap.size + 1, j, none⟩ (by show w.heap.size + 1 < _; omega)).trans (F4.out _ j (.inr rfl))
      have q0 := cb 0 _ rfl
      have q1 := cb 1 _ rfl
      have q2 := cb 2 _ rfl
      have q3 := cb 3 _ rfl
      have q4 := cb 4 _ rfl
      have t0 := rb 0 _ rfl
      have t1 := rb 1 _ rfl
      have t2 := rb 2 _ rfl
      have t3 := rb 3 _ rfl
      have t4 := rb 4 _ rfl
      have g0 := fb 0
      have g1 := fb 1
      have g2 := fb 2
      have g3 := fb 3
      have g4 := fb 4
      obtain ⟨y0, y1, y2, y3, y4⟩ := set5_cells (W := wr) (g := w.heap.size + 1) (u0 := .int .i64 kind) (u1 := .int .i64 from_) (u2 := .int .i64 to_) (u3 := .slice V1 vn d1) (u4 := .slice E1 en e1) (fun j hj => by
        match j, hj with
        | 0, _ => rw [t0]; rfl
        | 1, _ => rw [t1]; rfl
        | 2, _ => rw [t2]; rfl
        | 3, _ => rw [t3]; rfl
        | 4, _ => rw [t4]; rfl)
      have hh := fun i (hi : i ≠ w.heap.size + 1) => set5_heap wr (w.heap.size + 1) i (.int .i64 kind) (.int .i64 from_) (.int .i64 to_) (.slice V1 vn d1) (.slice E1 en e1) hi
      have hs5 := set5_size wr (w.heap.size + 1) (.int .i64 kind) (.int .i64 from_) (.int .i64 to_) (.slice V1 vn d1) (.slice E1 en e1)
      have B6 : Below w.heap.size w (set5 wr (w.heap.size + 1) (.int .i64 kind) (.int .i64 from_) (.int .i64 to_) (.slice V1 vn d1) (.slice E1 en e1)) := set5_below (b4.trans (hB.mono k0.size)) (by omega)
      have vnil : V1 = none → d1 = 0 := own_nil oV
      have enil : E1 = none → e1 = 0 := own_nil oE
      have hL2 : ∀ r ∈ L, EvR wr (fun i => W0.heap.size ≤ i ∧ i < wr.heap.size ∧ CellsAt wr i ∧ some i ≠ (Value.slice E1 en e1).ownBlock) r ∧ r.n ≤ 1099511627000 := by
        intro r hr
        obtain ⟨j, hj, hjr⟩ := List.getElem_of_mem hr
        exact hdone j r (by omega) (by rw [List.getElem?_eq_getElem hj, hjr])
      have ltE := oE.lt
      have mg : MgIn (set5 wr (w.heap.size + 1) (.int .i64 kind) (.int .i64 from_) (.int .i64 to_) (.slice V1 vn d1) (.slice E1 en e1)) w.heap.size (set5 wr (w.heap.size + 1) (.int .i64 kind) (.int .i64 from_) (.int .i64 to_) (.slice V1 vn d1) (.slice E1 en e1)).heap.size ⟨kind, from_, to_, V1, vn, d1, vec, E1, en, e1, L⟩ := by
        refine ⟨?_, ?_, fun r hr => ?_, ⟨⟨hd1, hd1', vnil⟩, hE1, hE1', enil⟩, hf1, hf2, fun r hr => (hL2 r hr).2⟩
        · exact ((show RN wr _ V1 vn vec from own_soft' oV).keep fun i hi => hh i (by omega)).more fun i hi => ⟨by omega, by rw [hs5]; exact hi.2.2.1, hi.2.2.2.keep (hh i (by omega)), fun e => by
            have h1 := (ltV i hi.1).2
            have h2 := (ltE i e.symm).1
            omega⟩
        · exact Reads.more (Reads.keep (own_soft oE) fun i hi => hh i (by have := b2.size; omega)) fun i hi => ⟨by have := b2.size; omega, by rw [hs5]; exact hi.2.1, hi.2.2.keep (hh i (by have := b2.size; omega))⟩
        · exact ((hL2 r hr).1.keep fun i hi => hh i (by omega)).more fun i hi => ⟨by omega, by rw [hs5]; exact hi.2.1, hi.2.2.1.keep (hh i (by omega)), hi.2.2.2⟩
      have hkk : mkey ⟨kind, from_, to_, V1, vn, d1, vec, E1, en, e1, L⟩ = mkey ⟨kind, from_, to_, VA, vn, vc, vec, EA, en, ecap, evs⟩ := by simp only [mkey, hkeys]
      have M1 := Lib.hid mg
      have M2 := Lib.hid hkk
      clear mg hkk hL2 hkeys hdone hrest cb rb fb hh
      go_wp2
      refine bodyPost_ret (v := .agg #[.int .i64 kind, .int .i64 from_, .int .i64 to_, .slice V1 vn d1, .slice E1 en e1]) ?_ rfl ?_
      · unfold set5 at y0 y1 y2 y3 y4
        simp [results, Try.results52, go_sem, y0, y1, y2, y3, y4]
      exact ⟨⟨kind, from_, to_, V1, vn, d1, vec, E1, en, e1, L⟩, rfl, M2.out, M1.out, B6⟩
set_option maxHeartbeats 800000 in
set_option maxRecDepth 100000 in
theorem look_new (w : World) (S : Nat → Prop) (g : Nat) (ms : List Mg) (h : Fli w S g ms) (k : Nat) (m : Mg) (hk : ms[k]? = some m) :
    Calls Try.prog 32 #[.pointer (some ⟨g, 0, none⟩), .int .i64 (k : Int)] w fun r w' => ∃ m', r = .returned (.tuple #[.agg (mc m').toArray, .bool true]) ∧ mkey m' = mkey m ∧ MgIn w' w.heap.size w'.heap.size m' ∧ Below w.heap.size w w' := by
  obtain ⟨⟨v, hc, ho, hv, hm⟩, ⟨hg1, hg2, hg3⟩, hSw⟩ := h
  have hkl : k < ms.length := (List.getElem?_eq_some_iff.1 hk).1
  have hmm := hm m (List.mem_of_getElem? hk)
  obtain ⟨gl, cl, rfl, hcl, hcl2, hgl, hgl2⟩ := own_at ho (by omega)
  have cells : ∀ j u, (mc m)[j]? = some u → w.cell? ⟨gl, k * 5 + j, none⟩ = some u := fun j u hu => by
    have hj : j < 5 := by have := (List.getElem?_eq_some_iff.1 hu).1; rwa [mc_length] at this
    have := Reads.cell (own_reads ho) rfl (j := k * 5 + j) (u := u) (by rw [mcs_get ms k j m hk hj]; exact hu)
    rwa [Nat.zero_add] at this
  obtain ⟨M, hM⟩ : ∃ M, M = ms.length := ⟨_, rfl⟩
  rw [← hM] at hc hkl hcl
  obtain ⟨w0, hw0⟩ : ∃ w0, w0 = w.alloc (.cells #[.int .i64 0, .int .i64 0, .int .i64 0, .slice none 0 0, .slice none 0 0] 54) := ⟨_, rfl⟩
  have k0 : Below w.heap.size w w0 := by rw [hw0]; exact (Below.refl _ _).alloc (Nat.le_refl _) _
  have z0 : w0.heap.size = w.heap.size + 1 := by rw [hw0]; simp
  have rx : ∀ j u, [Value.int .i64 0, .int .i64 0, .int .i64 0, .slice none 0 0, .slice none 0 0][j]? = some u → w0.cell? ⟨w.heap.size, j, none⟩ = some u := by
    intro j u hu
    rw [hw0, World.cell?_alloc_at _ _ _ _ rfl]
    simpa using hu
  have fx : ∀ j, w0.frozen? ⟨w.heap.size, j, none⟩ = false := fun j => by rw [hw0]; exact World.frozen?_alloc_at _ _ _ j rfl
  have c0 := (k0.cell (p := ⟨g, 0, none⟩) hg2).trans hc
  have y0 := (k0.cell (p := ⟨gl, k * 5 + 0, none⟩) hgl2).trans (cells 0 _ rfl)
  have y1 := (k0.cell (p := ⟨gl, k * 5 + 1, none⟩) hgl2).trans (cells 1 _ rfl)
  have y2 := (k0.cell (p := ⟨gl, k * 5 + 2, none⟩) hgl2).trans (cells 2 _ rfl)
  have y3 := (k0.cell (p := ⟨gl, k * 5 + 3, none⟩) hgl2).trans (cells 3 _ rfl)
  have y4 := (k0.cell (p := ⟨gl, k * 5 + 4, none⟩) hgl2).trans (cells 4 _ rfl)
  have hmw : MgR w0 _ m := hmm.1.keep fun i hi => k0.block i (hSw i hi.1)
  have d1 : decide ((k : Int) < 0) = false := by simp
  have d2 : decide ((M : Int) ≤ (k : Int)) = false := by simp; omega
  have hkk0 : (0 : Int) ≤ (k : Int) := by omega
  have hkk1 : (k : Int) < (M : Int) := by omega
  rw [Nat.add_zero] at y0
  rw [hw0] at c0 y0 y1 y2 y3 y4
  have RX := Lib.hid rx
  have FX := Lib.hid fx
  clear rx fx cells hk ho hv hm hM hc
  go_enter Try.func32, Try.ntmps32
  go_wp2_with fail
  rw [← hw0]
  clear hw0 c0 y0 y1 y2 y3 y4
  refine (copied_in m _ w0 hmw (fun i hi => Nat.lt_of_lt_of_le (hSw i hi.1) k0.size) hmm.2).mono ?_
  rintro e w1 ⟨m', rfl, hkey, hm', b1⟩
  have t0 := (b1.cell (p := ⟨w.heap.size, 0, none⟩) (by show w.heap.size < _; omega)).trans (RX.out 0 _ rfl)
  have t1 := (b1.cell (p := ⟨w.heap.size, 1, none⟩) (by show w.heap.size < _; omega)).trans (RX.out 1 _ rfl)
  have t2 := (b1.cell (p := ⟨w.heap.size, 2, none⟩) (by show w.heap.size < _; omega)).trans (RX.out 2 _ rfl)
  have t3 := (b1.cell (p := ⟨w.heap.size, 3, none⟩) (by show w.heap.size < _; omega)).trans (RX.out 3 _ rfl)
  have t4 := (b1.cell (p := ⟨w.heap.size, 4, none⟩) (by show w.heap.size < _; omega)).trans (RX.out 4 _ rfl)
  have g0 := (froz_below b1 ⟨w.heap.size, 0, none⟩ (by show w.heap.size < _; omega)).trans (FX.out 0)
  have g1 := (froz_below b1 ⟨w.heap.size, 1, none⟩ (by show w.heap.size < _; omega)).trans (FX.out 1)
  have g2 := (froz_below b1 ⟨w.heap.size, 2, none⟩ (by show w.heap.size < _; omega)).trans (FX.out 2)
  have g3 := (froz_below b1 ⟨w.heap.size, 3, none⟩ (by show w.heap.size < _; omega)).trans (FX.out 3)
  have g4 := (froz_below b1 ⟨w.heap.size, 4, none⟩ (by show w.heap.size < _; omega)).trans (FX.out 4)
  obtain ⟨x0, x1, x2, x3, x4⟩ := set5_cells (W := w1) (g := w.heap.size) (u0 := .int .i64 m'.kind) (u1 := .int .i64 m'.from_) (u2 := .int .i64 m'.to_) (u3 := .slice m'.VA m'.vn m'.vc) (u4 := .slice m'.EA m'.en m'.ecap) (fun j hj => by
    match j, hj with
    | 0, _ => rw [t0]; rfl
    | 1, _ => rw [t1]; rfl
    | 2, _ => rw [t2]; rfl
    | 3, _ => rw [t3]; rfl
    | 4, _ => rw [t4]; rfl)
  have hs5 := set5_size w1 w.heap.size (.int .i64 m'.kind) (.int .i64 m'.from_) (.int .i64 m'.to_) (.slice m'.VA m'.vn m'.vc) (.slice m'.EA m'.en m'.ecap)
  have B6 : Below w.heap.size w (set5 w1 w.heap.size (.int .i64 m'.kind) (.int .i64 m'.from_) (.int .i64 m'.to_) (.slice m'.VA m'.vn m'.vc) (.slice m'.EA m'.en m'.ecap)) := set5_below (next_below k0 b1) (Nat.le_refl _)
  have mg : MgIn (set5 w1 w.heap.size (.int .i64 m'.kind) (.int .i64 m'.from_) (.int .i64 m'.to_) (.slice m'.VA m'.vn m'.vc) (.slice m'.EA m'.en m'.ecap)) w.heap.size (set5 w1 w.heap.size (.int .i64 m'.kind) (.int .i64 m'.from_) (.int .i64 m'.to_) (.slice m'.VA m'.vn m'.vc) (.slice m'.EA m'.en m'.ecap)).heap.size m' := (hm'.keep fun i h1 h2 => set5_heap w1 w.heap.size i _ _ _ _ _ (by omega)).wide (by omega) (by rw [hs5]; exact Nat.le_refl _)
  have M1 := Lib.hid mg
  have M2 := Lib.hid hkey
  clear mg hkey hm'
  simp only [mc]
  go_wp2
  refine bodyPost_ret (v := .tuple #[.agg #[.int .i64 m'.kind, .int .i64 m'.from_, .int .i64 m'.to_, .slice m'.VA m'.vn m'.vc, .slice m'.EA m'.en m'.ecap], .bool true]) ?_ rfl ⟨m', rfl, M2.out, M1.out, B6⟩
  unfold set5 at x0 x1 x2 x3 x4
  simp [results, Try.results32, go_sem, x0, x1, x2, x3, x4]
end Go.Proofs.Ytcidmlpjobdakaa
