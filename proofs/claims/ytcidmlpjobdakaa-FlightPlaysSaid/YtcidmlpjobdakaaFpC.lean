/- The document's flight: Take. -/
import Derived.Test.YtcidmlpjobdakaaFpB
namespace Go.Proofs.Ytcidmlpjobdakaa
set_option linter.unusedSimpArgs false
set_option linter.unusedVariables false
set_option linter.unnecessarySimpa false
open Go.RowKit

set_option maxHeartbeats 800000 in
theorem refTake_out (w : World) (S : Nat → Prop) (g : Nat) (ms : List Mg) (h : Fli w S g ms) (i : Int) (hi : i < 0 ∨ (ms.length : Int) ≤ i) :
    Calls Try.prog 47 #[.pointer (some ⟨g, 0, none⟩), .int .i64 i] w fun r w' => r = .returned (.tuple #[.agg (mc zeroMg).toArray, .bool false]) ∧ Below w.heap.size w w' := by
  obtain ⟨W0, hW0⟩ : ∃ W0, W0 = w.alloc (.cells #[.int .i64 0, .int .i64 0, .int .i64 0, .slice none 0 0, .slice none 0 0] 54) := ⟨_, rfl⟩
  have k0 : Below w.heap.size w W0 := by rw [hW0]; exact (Below.refl _ _).alloc (Nat.le_refl _) _
  have z0 : W0.heap.size = w.heap.size + 1 := by rw [hW0]; simp
  have rx : ∀ j u, [Value.int .i64 0, .int .i64 0, .int .i64 0, .slice none 0 0, .slice none 0 0][j]? = some u → W0.cell? ⟨w.heap.size, j, none⟩ = some u := by
    intro j u hu
    rw [hW0, World.cell?_alloc_at _ _ _ _ rfl]
    simpa using hu
  have fx : ∀ j, W0.frozen? ⟨w.heap.size, j, none⟩ = false := fun j => by rw [hW0]; exact World.frozen?_alloc_at _ _ _ j rfl
  have RX := Lib.hid rx
  have FX := Lib.hid fx
  have HW0 := Lib.hid hW0
  clear rx fx hW0
  go_enter Try.func47, Try.ntmps47
  go_wp2_with fail
  rw [← HW0.out]
  refine (refLook_out W0 S g ms (h.below k0) i hi).mono ?_
  rintro e w1 ⟨rfl, b1⟩
  simp only [mc, zeroMg]
  obtain ⟨wm, hwm⟩ : ∃ wm, wm = w1.alloc (.cells #[.int .i64 0, .int .i64 0, .int .i64 0, .slice none 0 0, .slice none 0 0] 54) := ⟨_, rfl⟩
  have z1 := b1.size
  have b2 : Below W0.heap.size W0 wm := by rw [hwm]; exact b1.alloc z1 _
  have xm : ∀ j u, [Value.int .i64 0, .int .i64 0, .int .i64 0, .slice none 0 0, .slice none 0 0][j]? = some u → wm.cell? ⟨w1.heap.size, j, none⟩ = some u := by
    intro j u hu
    rw [hwm, World.cell?_alloc_at _ _ _ _ rfl]
    simpa using hu
  have x0 := xm 0 _ rfl
  have x1 := xm 1 _ rfl
  have x2 := xm 2 _ rfl
  have x3 := xm 3 _ rfl
  have x4 := xm 4 _ rfl
  have t0 := (b2.cell (p := ⟨w.heap.size, 0, none⟩) (by show w.heap.size < _; omega)).trans (RX.out 0 _ rfl)
  have t1 := (b2.cell (p := ⟨w.heap.size, 1, none⟩) (by show w.heap.size < _; omega)).trans (RX.out 1 _ rfl)
  have t2 := (b2.cell (p := ⟨w.heap.size, 2, none⟩) (by show w.heap.size < _; omega)).trans (RX.out 2 _ rfl)
  have t3 := (b2.cell (p := ⟨w.heap.size, 3, none⟩) (by show w.heap.size < _; omega)).trans (RX.out 3 _ rfl)
  have t4 := (b2.cell (p := ⟨w.heap.size, 4, none⟩) (by show w.heap.size < _; omega)).trans (RX.out 4 _ rfl)
  have g0 := (froz_below b2 ⟨w.heap.size, 0, none⟩ (by show w.heap.size < _; omega)).trans (FX.out 0)
  have g1 := (froz_below b2 ⟨w.heap.size, 1, none⟩ (by show w.heap.size < _; omega)).trans (FX.out 1)
  have g2 := (froz_below b2 ⟨w.heap.size, 2, none⟩ (by show w.heap.size < _; omega)).trans (FX.out 2)
  have g3 := (froz_below b2 ⟨w.heap.size, 3, none⟩ (by show w.heap.size < _; omega)).trans (FX.out 3)
  have g4 := (froz_below b2 ⟨w.heap.size, 4, none⟩ (by show w.heap.size < _; omega)).trans (FX.out 4)
  have HWM := Lib.hid hwm
  clear hwm xm
  go_upto_region 2 with fail
  rw [← HWM.out]
  obtain ⟨y0, y1, y2, y3, y4⟩ := set5_cells (W := wm) (g := w.heap.size) (u0 := .int .i64 0) (u1 := .int .i64 0) (u2 := .int .i64 0) (u3 := .slice none 0 0) (u4 := .slice none 0 0) (fun j hj => by
    match j, hj with
    | 0, _ => rw [t0]; rfl
    | 1, _ => rw [t1]; rfl
    | 2, _ => rw [t2]; rfl
    | 3, _ => rw [t3]; rfl
    | 4, _ => rw [t4]; rfl)
  have B6 : Below w.heap.size w (set5 wm w.heap.size (.int .i64 0) (.int .i64 0) (.int .i64 0) (.slice none 0 0) (.slice none 0 0)) := set5_below (next_below k0 b2) (Nat.le_refl _)
  go_wp2
  refine bodyPost_ret (v := .tuple #[.agg #[.int .i64 0, .int .i64 0, .int .i64 0, .slice none 0 0, .slice none 0 0], .bool false]) ?_ rfl ⟨rfl, B6⟩
  unfold set5 at y0 y1 y2 y3 y4
  simp [results, Try.results47, go_sem, y0, y1, y2, y3, y4]

theorem own_keep {w w' : World} {base : Nat} {e : TypeId} {size : Nat} {v : Value} {n : Nat} {xs : List Value} (h : w.ownsRow base e size v n xs) (hh : ∀ i, v.ownBlock = some i → w'.heap[i]? = w.heap[i]?) : w'.ownsRow base e size v n xs := by
  refine ⟨h.1, ?_⟩
  rcases h.2 with h2 | ⟨g, cap, cur, hv, hg, hk, r⟩
  · exact .inl h2
  · exact .inr ⟨g, cap, cur, hv, hg, (hh g (by rw [hv]; rfl)).trans hk, r⟩

set_option maxHeartbeats 1600000 in
set_option maxRecDepth 100000 in
theorem refTake_in (w : World) (S : Nat → Prop) (g : Nat) (ms : List Mg) (h : Fli w S g ms) (k : Nat) (m : Mg) (hk : ms[k]? = some m) (hms : ms.length ≤ 1024) :
    Calls Try.prog 47 #[.pointer (some ⟨g, 0, none⟩), .int .i64 (k : Int)] w fun r w' => ∃ m', r = .returned (.tuple #[.agg (mc m').toArray, .bool true]) ∧ mkey m' = mkey m ∧ MgR w' (fun i => w.heap.size ≤ i ∧ i < w'.heap.size) m' ∧ Fits m' ∧ Fli w' (Grow S w w') g (ms.eraseIdx k) ∧ Off S w w' := by
  obtain ⟨W0, hW0⟩ : ∃ W0, W0 = w.alloc (.cells #[.int .i64 0, .int .i64 0, .int .i64 0, .slice none 0 0, .slice none 0 0] 54) := ⟨_, rfl⟩
  have k0 : Below w.heap.size w W0 := by rw [hW0]; exact (Below.refl _ _).alloc (Nat.le_refl _) _
  have z0 : W0.heap.size = w.heap.size + 1 := by rw [hW0]; simp
  have T0 : BoxV W0 w.heap.size [.int .i64 0, .int .i64 0, .int .i64 0, .slice none 0 0, .slice none 0 0] 54 := by rw [hW0]; exact heap_alloc_new w _
  have HW0 := Lib.hid hW0
  have hkl : k < ms.length := (List.getElem?_eq_some_iff.1 hk).1
  clear hW0
  go_enter Try.func47, Try.ntmps47
  go_wp2_with fail
  rw [← HW0.out]
  have hF0 := h.below k0
  refine (refLook_new W0 S g ms hF0 k m hk).mono ?_
  rintro e w1 ⟨m', rfl, hkey, hmi, b1⟩
  have hmf := hmi.fits
  have hmR := hmi.mg
  have HKEY := Lib.hid hkey
  clear hkey hk hmi
  simp only [mc]
  obtain ⟨wm, hwm⟩ : ∃ wm, wm = w1.alloc (.cells #[.int .i64 m'.kind, .int .i64 m'.from_, .int .i64 m'.to_, .slice m'.VA m'.vn m'.vc, .slice m'.EA m'.en m'.ecap] 54) := ⟨_, rfl⟩
  have z1 := b1.size
  have b2 : Below W0.heap.size W0 wm := by rw [hwm]; exact b1.alloc z1 _
  have zm : wm.heap.size = w1.heap.size + 1 := by rw [hwm]; simp
  have xb : BoxV wm w1.heap.size [.int .i64 m'.kind, .int .i64 m'.from_, .int .i64 m'.to_, .slice m'.VA m'.vn m'.vc, .slice m'.EA m'.en m'.ecap] 54 := by rw [hwm]; exact heap_alloc_new w1 _
  have tb : BoxV wm w.heap.size _ _ := T0.kept (b2.block _ (by omega))
  have hmR2 : MgR wm (fun i => W0.heap.size ≤ i ∧ i < w1.heap.size) m' := hmR.keep fun i hi => by rw [hwm]; exact Below.heap_alloc _ _ _ hi.2
  have hFm := hF0.below b2
  obtain ⟨⟨v, hcv, hov, hvb, hmm⟩, ⟨hg1, hg2, hg3⟩, hSw⟩ := hFm
  obtain ⟨N, hN⟩ : ∃ N, ms.length = N + 1 := ⟨ms.length - 1, by omega⟩
  rw [hN] at hov hkl hms
  obtain ⟨b, cap, rfl, hc1, hc2, _, hb2⟩ := own_at hov (by omega)
  have hgw : g < w.heap.size := h.inw g hg1
  have hgm : g < wm.heap.size := by omega
  have hkk0 : (0 : Int) ≤ (k : Int) := by omega
  have hkk1 : (k : Int) ≤ 9223372036854775807 := by omega
  have hr1 : Reads wm (fun i => i < wm.heap.size) 5 (some ⟨b, 0, none⟩) k (mcs (ms.take k)) := by
    have := Reads.take (k := k) (own_reads hov) (by omega)
    rw [mcs_take] at this
    exact Reads.more this fun i hi => hi.2
  have hr2' : Reads wm (fun i => i < wm.heap.size) 5 (some ⟨b, (k + 1) * 5, none⟩) (N - k) (mcs (ms.drop (k + 1))) := by
    have := Reads.drop (k := k + 1) (own_reads hov) (by omega) (some ⟨b, 0 + (k + 1) * 5, none⟩) (fun _ => rfl)
    rw [mcs_drop, Nat.zero_add, show N + 1 - (k + 1) = N - k by omega] at this
    exact Reads.more this fun i hi => hi.2
  have hown0 : wm.ownsRow wm.heap.size 54 5 (.slice none 0 0) 0 [] := World.ownsRow_nil _ _ _ _
  have HN := Lib.hid hN
  have HWM := Lib.hid hwm
  have XB := Lib.hid xb
  have TB := Lib.hid tb
  clear hwm xb tb hN hov hF0 T0

  go_upto_region 2 with fail
  rw [← HWM.out]
  have hcap0 : k ≤ cap := by omega
  go_upto_region 5 with (at_builtin; (refine wpList_appN _ rfl _ _ 48 rfl wm.heap.size 54 (.agg #[.int .i64 0, .int .i64 0, .int .i64 0, .slice none 0 0, .slice none 0 0]) 5 72 Try.underlying48 infoMsg rfl (by decide) _ 0 _ hown0 rfl _ (some ⟨b, 0, none⟩) k cap _ hr1 rfl (mcs_one _) (by omega) (by omega) (Nat.le_refl _) ?_); intro v1 w2 own1 hgr1 bb1 hat1)
  rw [Nat.zero_add, List.nil_append] at own1
  have hz2 := bb1.size
  have qg := (bb1.cell (p := ⟨g, 0, none⟩) hgm).trans hcv
  have qf := (froz_below bb1 ⟨g, 0, none⟩ hgm).trans hg3
  clear hgr1 hat1 hr1 hown0
  by_cases hcap : cap = k + 1
  · subst hcap
    have hNk : N - k = 0 := by omega
    have hr2 : Reads w2 (fun i => i < wm.heap.size) 5 (some ⟨b, 0, none⟩) 0 (mcs (ms.drop (k + 1))) := by
      have hnil : mcs (ms.drop (k + 1)) = [] := by rw [List.drop_of_length_le (by have := HN.out; omega)]; rfl
      rw [hnil]
      exact Reads.zero
    go_upto_region 6 with (at_builtin; (refine wpList_appN _ rfl _ _ 48 rfl wm.heap.size 54 (.agg #[.int .i64 0, .int .i64 0, .int .i64 0, .slice none 0 0, .slice none 0 0]) 5 72 Try.underlying48 infoMsg rfl (by decide) _ k _ own1 rfl _ (some ⟨b, 0, none⟩) 0 0 _ hr2 rfl (mcs_one _) (by omega) (by omega) hz2 ?_); intro v2 w3 own2 hgr2 bb2 hat2; rw [Nat.add_zero] at own2; obtain ⟨A2, c2, rfl, _, _, _⟩ := own_form own2; have q1 := (bb2.cell (p := ⟨g, 0, none⟩) hgm).trans qg; have q2 := (froz_below bb2 ⟨g, 0, none⟩ hgm).trans qf)
    obtain ⟨v2, hv2e⟩ : ∃ v, v = Value.slice A2 k c2 := ⟨_, rfl⟩
    rw [← hv2e] at own2 ⊢
    clear hv2e
    obtain ⟨w4, hw4⟩ : ∃ w4, w4 = w3.setCell ⟨g, 0, none⟩ v2 := ⟨_, rfl⟩
    rw [← hw4]
    have z3 := bb2.size
    have z4 : w4.heap.size = w3.heap.size := by rw [hw4]; simp
    have hv2 : ∀ i, v2.ownBlock = some i → wm.heap.size ≤ i ∧ i < w3.heap.size := own2.lt
    have f4 : ∀ i, i < wm.heap.size → i ≠ g → w4.heap[i]? = wm.heap[i]? := fun i h1 h2 => by
      rw [hw4, Below.heap_setCell _ _ _ _ (by exact h2), bb2.block i h1, bb1.block i h1]
    have own4 : w4.ownsRow wm.heap.size 54 5 v2 k (mcs (ms.take k) ++ mcs (ms.drop (k + 1))) := own_keep own2 fun i hi => by
      rw [hw4, Below.heap_setCell _ _ _ _ (by have := (hv2 i hi).1; show i ≠ g; omega)]
    have q4 : w4.cell? ⟨g, 0, none⟩ = some v2 := by rw [hw4]; exact cell_same (by rw [q1]; rfl)
    have q5 : w4.frozen? ⟨g, 0, none⟩ = false := by rw [hw4, World.frozen?_setCell]; exact q2
    have c4 : Below 0 wm w4 := by rw [hw4]; exact ((bb1.mono (Nat.zero_le _)).trans (bb2.mono (Nat.zero_le _))).setCell (p := ⟨g, 0, none⟩) (Nat.zero_le _) _
    clear hw4 own1 own2 hr2 qg qf q1 q2 hgr2 hat2
    have xb := XB.out.kept (f4 w1.heap.size (by omega) (by omega))
    have tb := TB.out.kept (f4 w.heap.size (by omega) (by omega))
    have xx0 := xb.cell 0 _ rfl
    have xx1 := xb.cell 1 _ rfl
    have xx2 := xb.cell 2 _ rfl
    have xx3 := xb.cell 3 _ rfl
    have xx4 := xb.cell 4 _ rfl
    have tt0 := tb.cell 0 _ rfl
    have tt1 := tb.cell 1 _ rfl
    have tt2 := tb.cell 2 _ rfl
    have tt3 := tb.cell 3 _ rfl
    have tt4 := tb.cell 4 _ rfl
    have gg0 := tb.froz 0
    have gg1 := tb.froz 1
    have gg2 := tb.froz 2
    have gg3 := tb.froz 3
    have gg4 := tb.froz 4
    obtain ⟨y0, y1, y2, y3, y4⟩ := set5_cells (W := w4) (g := w.heap.size) (u0 := .int .i64 m'.kind) (u1 := .int .i64 m'.from_) (u2 := .int .i64 m'.to_) (u3 := .slice m'.VA m'.vn m'.vc) (u4 := .slice m'.EA m'.en m'.ecap) (fun j hj => by
      match j, hj with
      | 0, _ => rw [tt0]; rfl
      | 1, _ => rw [tt1]; rfl
      | 2, _ => rw [tt2]; rfl
      | 3, _ => rw [tt3]; rfl
      | 4, _ => rw [tt4]; rfl)
    have hs5 := set5_size w4 w.heap.size (.int .i64 m'.kind) (.int .i64 m'.from_) (.int .i64 m'.to_) (.slice m'.VA m'.vn m'.vc) (.slice m'.EA m'.en m'.ecap)
    have hh := fun i (hi : i ≠ w.heap.size) => set5_heap w4 w.heap.size i (.int .i64 m'.kind) (.int .i64 m'.from_) (.int .i64 m'.to_) (.slice m'.VA m'.vn m'.vc) (.slice m'.EA m'.en m'.ecap) hi
    obtain ⟨WW, hWW⟩ : ∃ WW, WW = set5 w4 w.heap.size (.int .i64 m'.kind) (.int .i64 m'.from_) (.int .i64 m'.to_) (.slice m'.VA m'.vn m'.vc) (.slice m'.EA m'.en m'.ecap) := ⟨_, rfl⟩
    have hfin : MgR WW (fun i => w.heap.size ≤ i ∧ i < WW.heap.size) m' ∧ Fli WW (Grow S w WW) g (ms.eraseIdx k) ∧ Off S w WW := by
      rw [← hWW] at hs5 hh
      have hz : w.heap.size ≤ WW.heap.size := by omega
      have hall : ∀ i, i < wm.heap.size → i ≠ g → i ≠ w.heap.size → WW.heap[i]? = wm.heap[i]? := fun i h1 h2 h3 => (hh i h3).trans (f4 i h1 h2)
      refine ⟨(hmR2.keep fun i hi => hall i (by omega) (by omega) (by omega)).more fun i hi => ⟨by omega, by omega⟩, ⟨⟨v2, ?_, ?_, ?_, ?_⟩, ⟨.inl hg1, by omega, ?_⟩, ?_⟩, ?_, ?_⟩
      · exact (World.cell?_of_block (w := w4) (hh g (by omega))).trans q4
      · have hl : (ms.eraseIdx k).length = k := by rw [List.length_eraseIdx, HN.out, if_pos (by omega)]; omega
        rw [hl, List.eraseIdx_eq_take_drop_succ, mcs_append]
        exact own_base (own_keep own4 fun i hi => hh i (by have := (hv2 i hi).1; omega)) (Nat.zero_le _)
      · intro i hi
        have := hv2 i hi
        exact ⟨.inr ⟨by omega, by omega⟩, by omega⟩
      · intro x hx
        obtain ⟨h1, h2⟩ := hmm x (List.mem_of_mem_eraseIdx hx)
        refine ⟨(h1.keep fun i hi => hall i (by have := h.inw i hi.1; omega) hi.2.1 (by have := h.inw i hi.1; omega)).more fun i hi => ⟨.inl hi.1, hi.2.1, fun e => by have := (hv2 i e.symm).1; have := h.inw i hi.1; omega⟩, h2⟩
      · exact (World.frozen?_of_block (w := w4) (hh g (by omega))).trans q5
      · intro i hi
        rcases hi with hi | hi
        · exact Nat.lt_of_lt_of_le (h.inw i hi) hz
        · exact hi.2
      · rw [hWW]
        exact set5_below (((next_below k0 b2).mono (Nat.zero_le _)).trans c4) (Nat.zero_le _)
      · intro i hi hs
        exact (hall i (by omega) (fun e => hs (e ▸ hg1)) (by omega)).trans ((next_below k0 b2).block i hi)
    rw [hWW] at hfin
    have FIN := Lib.hid hfin
    clear hfin hh hs5 f4 own4 hv2 hWW
    go_wp2
    refine bodyPost_ret (v := .tuple #[.agg #[.int .i64 m'.kind, .int .i64 m'.from_, .int .i64 m'.to_, .slice m'.VA m'.vn m'.vc, .slice m'.EA m'.en m'.ecap], .bool true]) ?_ rfl ⟨m', rfl, HKEY.out, FIN.out.1, hmf, FIN.out.2⟩
    unfold set5 at y0 y1 y2 y3 y4
    simp [results, Try.results47, go_sem, y0, y1, y2, y3, y4]
  · have hr2 : Reads w2 (fun i => i < wm.heap.size) 5 (some ⟨b, (k + 1) * 5, none⟩) (N - k) (mcs (ms.drop (k + 1))) := Reads.keep hr2' fun i hi => bb1.block i hi
    go_upto_region 6 with (at_builtin; (refine wpList_appN _ rfl _ _ 48 rfl wm.heap.size 54 (.agg #[.int .i64 0, .int .i64 0, .int .i64 0, .slice none 0 0, .slice none 0 0]) 5 72 Try.underlying48 infoMsg rfl (by decide) _ k _ own1 rfl _ (some ⟨b, (k + 1) * 5, none⟩) (N - k) (cap - (k + 1)) _ hr2 rfl (mcs_one _) (by omega) (by omega) hz2 ?_); intro v2 w3 own2 hgr2 bb2 hat2; obtain ⟨A2, c2, rfl, _, _, _⟩ := own_form own2; have q1 := (bb2.cell (p := ⟨g, 0, none⟩) hgm).trans qg; have q2 := (froz_below bb2 ⟨g, 0, none⟩ hgm).trans qf)
    obtain ⟨v2, hv2e⟩ : ∃ v, v = Value.slice A2 (k + (N - k)) c2 := ⟨_, rfl⟩
    rw [← hv2e] at own2 ⊢
    clear hv2e
    obtain ⟨w4, hw4⟩ : ∃ w4, w4 = w3.setCell ⟨g, 0, none⟩ v2 := ⟨_, rfl⟩
    rw [← hw4]
    have z3 := bb2.size
    have z4 : w4.heap.size = w3.heap.size := by rw [hw4]; simp
    have hv2 : ∀ i, v2.ownBlock = some i → wm.heap.size ≤ i ∧ i < w3.heap.size := own2.lt
    have f4 : ∀ i, i < wm.heap.size → i ≠ g → w4.heap[i]? = wm.heap[i]? := fun i h1 h2 => by
      rw [hw4, Below.heap_setCell _ _ _ _ (by exact h2), bb2.block i h1, bb1.block i h1]
    have own4 : w4.ownsRow wm.heap.size 54 5 v2 (k + (N - k)) (mcs (ms.take k) ++ mcs (ms.drop (k + 1))) := own_keep own2 fun i hi => by
      rw [hw4, Below.heap_setCell _ _ _ _ (by have := (hv2 i hi).1; show i ≠ g; omega)]
    have q4 : w4.cell? ⟨g, 0, none⟩ = some v2 := by rw [hw4]; exact cell_same (by rw [q1]; rfl)
    have q5 : w4.frozen? ⟨g, 0, none⟩ = false := by rw [hw4, World.frozen?_setCell]; exact q2
    have c4 : Below 0 wm w4 := by rw [hw4]; exact ((bb1.mono (Nat.zero_le _)).trans (bb2.mono (Nat.zero_le _))).setCell (p := ⟨g, 0, none⟩) (Nat.zero_le _) _
    clear hw4 own1 own2 hr2 qg qf q1 q2 hgr2 hat2
    have xb := XB.out.kept (f4 w1.heap.size (by omega) (by omega))
    have tb := TB.out.kept (f4 w.heap.size (by omega) (by omega))
    have xx0 := xb.cell 0 _ rfl
    have xx1 := xb.cell 1 _ rfl
    have xx2 := xb.cell 2 _ rfl
    have xx3 := xb.cell 3 _ rfl
    have xx4 := xb.cell 4 _ rfl
    have tt0 := tb.cell 0 _ rfl
    have tt1 := tb.cell 1 _ rfl
    have tt2 := tb.cell 2 _ rfl
    have tt3 := tb.cell 3 _ rfl
    have tt4 := tb.cell 4 _ rfl
    have gg0 := tb.froz 0
    have gg1 := tb.froz 1
    have gg2 := tb.froz 2
    have gg3 := tb.froz 3
    have gg4 := tb.froz 4
    obtain ⟨y0, y1, y2, y3, y4⟩ := set5_cells (W := w4) (g := w.heap.size) (u0 := .int .i64 m'.kind) (u1 := .int .i64 m'.from_) (u2 := .int .i64 m'.to_) (u3 := .slice m'.VA m'.vn m'.vc) (u4 := .slice m'.EA m'.en m'.ecap) (fun j hj => by
      match j, hj with
      | 0, _ => rw [tt0]; rfl
      | 1, _ => rw [tt1]; rfl
      | 2, _ => rw [tt2]; rfl
      | 3, _ => rw [tt3]; rfl
      | 4, _ => rw [tt4]; rfl)
    have hs5 := set5_size w4 w.heap.size (.int .i64 m'.kind) (.int .i64 m'.from_) (.int .i64 m'.to_) (.slice m'.VA m'.vn m'.vc) (.slice m'.EA m'.en m'.ecap)
    have hh := fun i (hi : i ≠ w.heap.size) => set5_heap w4 w.heap.size i (.int .i64 m'.kind) (.int .i64 m'.from_) (.int .i64 m'.to_) (.slice m'.VA m'.vn m'.vc) (.slice m'.EA m'.en m'.ecap) hi
    obtain ⟨WW, hWW⟩ : ∃ WW, WW = set5 w4 w.heap.size (.int .i64 m'.kind) (.int .i64 m'.from_) (.int .i64 m'.to_) (.slice m'.VA m'.vn m'.vc) (.slice m'.EA m'.en m'.ecap) := ⟨_, rfl⟩
    have hfin : MgR WW (fun i => w.heap.size ≤ i ∧ i < WW.heap.size) m' ∧ Fli WW (Grow S w WW) g (ms.eraseIdx k) ∧ Off S w WW := by
      rw [← hWW] at hs5 hh
      have hz : w.heap.size ≤ WW.heap.size := by omega
      have hall : ∀ i, i < wm.heap.size → i ≠ g → i ≠ w.heap.size → WW.heap[i]? = wm.heap[i]? := fun i h1 h2 h3 => (hh i h3).trans (f4 i h1 h2)
      refine ⟨(hmR2.keep fun i hi => hall i (by omega) (by omega) (by omega)).more fun i hi => ⟨by omega, by omega⟩, ⟨⟨v2, ?_, ?_, ?_, ?_⟩, ⟨.inl hg1, by omega, ?_⟩, ?_⟩, ?_, ?_⟩
      · exact (World.cell?_of_block (w := w4) (hh g (by omega))).trans q4
      · have hl : (ms.eraseIdx k).length = (k + (N - k)) := by rw [List.length_eraseIdx, HN.out, if_pos (by omega)]; omega
        rw [hl, List.eraseIdx_eq_take_drop_succ, mcs_append]
        exact own_base (own_keep own4 fun i hi => hh i (by have := (hv2 i hi).1; omega)) (Nat.zero_le _)
      · intro i hi
        have := hv2 i hi
        exact ⟨.inr ⟨by omega, by omega⟩, by omega⟩
      · intro x hx
        obtain ⟨h1, h2⟩ := hmm x (List.mem_of_mem_eraseIdx hx)
        refine ⟨(h1.keep fun i hi => hall i (by have := h.inw i hi.1; omega) hi.2.1 (by have := h.inw i hi.1; omega)).more fun i hi => ⟨.inl hi.1, hi.2.1, fun e => by have := (hv2 i e.symm).1; have := h.inw i hi.1; omega⟩, h2⟩
      · exact (World.frozen?_of_block (w := w4) (hh g (by omega))).trans q5
      · intro i hi
        rcases hi with hi | hi
        · exact Nat.lt_of_lt_of_le (h.inw i hi) hz
        · exact hi.2
      · rw [hWW]
        exact set5_below (((next_below k0 b2).mono (Nat.zero_le _)).trans c4) (Nat.zero_le _)
      · intro i hi hs
        exact (hall i (by omega) (fun e => hs (e ▸ hg1)) (by omega)).trans ((next_below k0 b2).block i hi)
    rw [hWW] at hfin
    have FIN := Lib.hid hfin
    clear hfin hh hs5 f4 own4 hv2 hWW
    go_wp2
    refine bodyPost_ret (v := .tuple #[.agg #[.int .i64 m'.kind, .int .i64 m'.from_, .int .i64 m'.to_, .slice m'.VA m'.vn m'.vc, .slice m'.EA m'.en m'.ecap], .bool true]) ?_ rfl ⟨m', rfl, HKEY.out, FIN.out.1, hmf, FIN.out.2⟩
    unfold set5 at y0 y1 y2 y3 y4
    simp [results, Try.results47, go_sem, y0, y1, y2, y3, y4]
end Go.Proofs.Ytcidmlpjobdakaa
