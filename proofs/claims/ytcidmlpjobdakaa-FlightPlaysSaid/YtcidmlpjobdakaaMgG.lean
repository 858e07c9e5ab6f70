/- Take of a message that is there. -/
import Derived.Test.YtcidmlpjobdakaaMgF
namespace Go.Proofs.Ytcidmlpjobdakaa
set_option linter.unusedSimpArgs false
set_option linter.unusedVariables false
set_option linter.unnecessarySimpa false
open Go.RowKit

set_option maxHeartbeats 1600000 in
set_option maxRecDepth 100000 in
theorem take_in (w : World) (S : Nat → Prop) (g : Nat) (ms : List Mg) (h : Fli w S g ms) (k : Nat) (m : Mg) (hk : ms[k]? = some m) :
    Calls Try.prog 36 #[.pointer (some ⟨g, 0, none⟩), .int .i64 (k : Int)] w fun r w' => ∃ m', r = .returned (.tuple #[.agg (mc m').toArray, .bool true]) ∧ mkey m' = mkey m ∧ MgR w' (fun i => w.heap.size ≤ i ∧ i < w'.heap.size) m' ∧ Fits m' ∧ Fli w' S g (ms.eraseIdx k) ∧ Off S w w' := by
  obtain ⟨W0, hW0⟩ : ∃ W0, W0 = w.alloc (.cells #[.int .i64 0, .int .i64 0, .int .i64 0, .slice none 0 0, .slice none 0 0] 54) := ⟨_, rfl⟩
  have k0 : Below w.heap.size w W0 := by rw [hW0]; exact (Below.refl _ _).alloc (Nat.le_refl _) _
  have z0 : W0.heap.size = w.heap.size + 1 := by rw [hW0]; simp
  have rx : ∀ j u, [Value.int .i64 0, .int .i64 0, .int .i64 0, .slice none 0 0, .slice none 0 0][j]? = some u → W0.cell? ⟨w.heap.size, j, none⟩ = some u := by
    intro j u hu
    rw [hW0, World.cell?_alloc_at _ _ _ _ rfl]
    simpa using hu
  have fx : ∀ j, W0.frozen? ⟨w.heap.size, j, none⟩ = false := fun j => by rw [hW0]; exact World.frozen?_alloc_at _ _ _ j rfl
  have RX := Lib.hid rx
  have FX := Lib.hid fx
  have HW0 := Lib.hid hW0
  have hkl : k < ms.length := (List.getElem?_eq_some_iff.1 hk).1
  clear rx fx hW0
  go_enter Try.func36, Try.ntmps36
  go_wp2_with fail
  rw [← HW0.out]
  have hF0 := h.below k0
  refine (look_in W0 S g ms hF0 k m hk).mono ?_
  rintro e w1 ⟨m', rfl, hkey, hmR, hmf, b1⟩
  have HKEY := Lib.hid hkey
  have HK := Lib.hid hk
  clear hkey hk
  simp only [mc]
  obtain ⟨wm, hwm⟩ : ∃ wm, wm = w1.alloc (.cells #[.int .i64 m'.kind, .int .i64 m'.from_, .int .i64 m'.to_, .slice m'.VA m'.vn m'.vc, .slice m'.EA m'.en m'.ecap] 54) := ⟨_, rfl⟩
  have z1 := b1.size
  have b2 : Below W0.heap.size W0 wm := by rw [hwm]; exact b1.alloc z1 _
  have zm : wm.heap.size = w1.heap.size + 1 := by rw [hwm]; simp
  have xm : ∀ j u, (mc m')[j]? = some u → wm.cell? ⟨w1.heap.size, j, none⟩ = some u := by
    intro j u hu
    rw [hwm, World.cell?_alloc_at _ _ _ _ rfl]
    simpa [mc] using hu
  have hmR2 : MgR wm (fun i => W0.heap.size ≤ i ∧ i < w1.heap.size) m' := hmR.keep fun i hi => by rw [hwm]; exact Below.heap_alloc _ _ _ hi.2
  have hFm := hF0.below b2
  have tm : ∀ j u, [Value.int .i64 0, .int .i64 0, .int .i64 0, .slice none 0 0, .slice none 0 0][j]? = some u → wm.cell? ⟨w.heap.size, j, none⟩ = some u := fun j u hu => (b2.cell (p := ⟨w.heap.size, j, none⟩) (by show w.heap.size < _; omega)).trans (RX.out j u hu)
  have fm : ∀ j, wm.frozen? ⟨w.heap.size, j, none⟩ = false := fun j => (froz_below b2 ⟨w.heap.size, j, none⟩ (by show w.heap.size < _; omega)).trans (FX.out j)
  obtain ⟨⟨v, hcv, hov, hvb, hmm⟩, ⟨hg1, hg2, hg3⟩, hSw⟩ := hFm
  obtain ⟨N, hN⟩ : ∃ N, ms.length = N + 1 := ⟨ms.length - 1, by omega⟩
  rw [hN] at hov
  obtain ⟨b, cap, rfl, hc1, hc2, _, hb2⟩ := own_at hov (by omega)
  have hSb := hvb b rfl
  have hbw : b < w.heap.size := h.inw b hSb.1
  have hgw : g < w.heap.size := h.inw g hg1
  have hkk : (k : Int) + 1 ≤ 9223372036854775807 := by omega
  have hkk0 : (0 : Int) ≤ (k : Int) := by omega
  have HWM := Lib.hid hwm
  have XM := Lib.hid xm
  have TM := Lib.hid tm
  have FM := Lib.hid fm
  have HOV := Lib.hid hov
  have HN := Lib.hid hN
  clear hwm xm tm fm hov hN
  go_upto_region 2 with fail
  rw [← HWM.out]
  go_wp2_with fail
  refine (delete_any b cap N k ms wm HN.out HOV.out (by have := HN.out; omega)).mono ?_
  rintro e w3 ⟨rfl, o3, f3, z3, c3⟩
  have q1 : w3.cell? ⟨g, 0, none⟩ = some (.slice (some ⟨b, 0, none⟩) (N + 1) cap) := (World.cell?_of_block (w := wm) (f3 g (fun e => hSb.2 e.symm))).trans hcv
  have q2 : w3.frozen? ⟨g, 0, none⟩ = false := (World.frozen?_of_block (w := wm) (f3 g (fun e => hSb.2 e.symm))).trans hg3
  obtain ⟨w4, hw4⟩ : ∃ w4, w4 = w3.setCell ⟨g, 0, none⟩ (.slice (some ⟨b, 0, none⟩) N cap) := ⟨_, rfl⟩
  have z4 : w4.heap.size = wm.heap.size := by rw [hw4]; simp [z3]
  have f4 : ∀ i, i ≠ b → i ≠ g → w4.heap[i]? = wm.heap[i]? := fun i h1 h2 => by rw [hw4, Below.heap_setCell _ _ _ _ (by exact h2)]; exact f3 i h1
  have q4 : w4.cell? ⟨g, 0, none⟩ = some (.slice (some ⟨b, 0, none⟩) N cap) := by rw [hw4]; exact cell_same (by rw [q1]; rfl)
  have q5 : w4.frozen? ⟨g, 0, none⟩ = false := by rw [hw4, World.frozen?_setCell]; exact q2
  have o4 : w4.ownsRow 0 54 5 (.slice (some ⟨b, 0, none⟩) N cap) N (mcs (ms.eraseIdx k)) := by rw [hw4]; exact ownsRow_setCell_other o3 (a := ⟨g, 0, none⟩) (fun e => hSb.2 (Option.some.inj e)) _
  have c4 : Below 0 w3 w4 := by rw [hw4]; exact (Below.refl 0 w3).setCell (p := ⟨g, 0, none⟩) (Nat.zero_le _) _
  have HW4 := Lib.hid hw4
  have O4 := Lib.hid o4
  have F4 := Lib.hid f4
  clear hw4 o3 o4 f3 f4
  have x4 : ∀ j u, (mc m')[j]? = some u → w4.cell? ⟨w1.heap.size, j, none⟩ = some u := fun j u hu => (World.cell?_of_block (w := wm) (F4.out w1.heap.size (by omega) (by omega))).trans (XM.out j u hu)
  have t4 : ∀ j u, [Value.int .i64 0, .int .i64 0, .int .i64 0, .slice none 0 0, .slice none 0 0][j]? = some u → w4.cell? ⟨w.heap.size, j, none⟩ = some u := fun j u hu => (World.cell?_of_block (w := wm) (F4.out w.heap.size (by omega) (by omega))).trans (TM.out j u hu)
  have g4 : ∀ j, w4.frozen? ⟨w.heap.size, j, none⟩ = false := fun j => (World.frozen?_of_block (w := wm) (F4.out w.heap.size (by omega) (by omega))).trans (FM.out j)
  have xx0 := x4 0 _ rfl
  have xx1 := x4 1 _ rfl
  have xx2 := x4 2 _ rfl
  have xx3 := x4 3 _ rfl
  have xx4 := x4 4 _ rfl
  have tt0 := t4 0 _ rfl
  have tt1 := t4 1 _ rfl
  have tt2 := t4 2 _ rfl
  have tt3 := t4 3 _ rfl
  have tt4 := t4 4 _ rfl
  have gg0 := g4 0
  have gg1 := g4 1
  have gg2 := g4 2
  have gg3 := g4 3
  have gg4 := g4 4
  clear x4 t4 g4
  go_upto_region 4 with fail
  rw [← HW4.out]
  obtain ⟨y0, y1, y2, y3, y4⟩ := set5_cells (W := w4) (g := w.heap.size) (u0 := .int .i64 m'.kind) (u1 := .int .i64 m'.from_) (u2 := .int .i64 m'.to_) (u3 := .slice m'.VA m'.vn m'.vc) (u4 := .slice m'.EA m'.en m'.ecap) (fun j hj => by
    match j, hj with
    | 0, _ => rw [tt0]; rfl
    | 1, _ => rw [tt1]; rfl
    | 2, _ => rw [tt2]; rfl
    | 3, _ => rw [tt3]; rfl
    | 4, _ => rw [tt4]; rfl)
  have hs5 := set5_size w4 w.heap.size (.int .i64 m'.kind) (.int .i64 m'.from_) (.int .i64 m'.to_) (.slice m'.VA m'.vn m'.vc) (.slice m'.EA m'.en m'.ecap)
  have hh := fun i (hi : i ≠ w.heap.size) => set5_heap w4 w.heap.size i (.int .i64 m'.kind) (.int .i64 m'.from_) (.int .i64 m'.to_) (.slice m'.VA m'.vn m'.vc) (.slice m'.EA m'.en m'.ecap) hi
  obtain ⟨WW, hWW⟩ : ∃ WW, WW = set5 w4 w.heap.size (.int .i64 m'.kind) (.int .i64 m'.from_) (.int .i64 m'.to_) (.slice m'.VA m'.vn m'.vc) (.slice m'.EA m'.en m'.ecap) := ⟨_, rfl⟩
  have hfin : MgR WW (fun i => w.heap.size ≤ i ∧ i < WW.heap.size) m' ∧ Fli WW S g (ms.eraseIdx k) ∧ Off S w WW := by
    rw [← hWW] at hs5 hh
    have hz : w.heap.size ≤ WW.heap.size := by omega
    have hall : ∀ i, i ≠ b → i ≠ g → i ≠ w.heap.size → WW.heap[i]? = wm.heap[i]? := fun i h1 h2 h3 => (hh i h3).trans (F4.out i h1 h2)
    refine ⟨(hmR2.keep fun i hi => hall i (by omega) (by omega) (by omega)).more fun i hi => ⟨by omega, by omega⟩, ⟨⟨.slice (some ⟨b, 0, none⟩) N cap, ?_, ?_, ?_, ?_⟩, ⟨hg1, by omega, ?_⟩, fun i hi => Nat.lt_of_lt_of_le (h.inw i hi) hz⟩, ?_, ?_⟩
    · exact (World.cell?_of_block (w := w4) (hh g (by omega))).trans q4
    · have hl : (ms.eraseIdx k).length = N := by rw [List.length_eraseIdx, HN.out, if_pos (by have := HN.out; omega)]; rfl
      rw [hl]
      refine ⟨O4.out.1, ?_⟩
      rcases O4.out.2 with ⟨h1, _⟩ | ⟨b', cap', cur, e, hb, hb3, r⟩
      · cases h1
      · injection e with e1 e2 e3
        injection e1 with e1
        injection e1 with e1
        exact .inr ⟨b', cap', cur, by rw [e1, e3], hb, (hh b' (by omega)).trans hb3, r⟩
    · intro i hi
      obtain rfl : b = i := Option.some.inj hi
      exact hSb
    · intro x hx
      obtain ⟨h1, h2⟩ := hmm x (List.mem_of_mem_eraseIdx hx)
      refine ⟨(h1.keep fun i hi => hall i (fun e => hi.2.2 (by rw [e]; rfl)) hi.2.1 (by have := h.inw i hi.1; omega)).more fun i hi => ⟨hi.1, hi.2.1, fun e => hi.2.2 (by rw [e]; rfl)⟩, h2⟩
    · exact (World.frozen?_of_block (w := w4) (hh g (by omega))).trans q5
    · rw [hWW]
      exact set5_below ((((next_below k0 b2).mono (Nat.zero_le _)).trans c3).trans c4) (Nat.zero_le _)
    · intro i hi hs
      exact (hall i (fun e => hs (e ▸ hSb.1)) (fun e => hs (e ▸ hg1)) (by omega)).trans ((next_below k0 b2).block i hi)
  rw [hWW] at hfin
  have FIN := Lib.hid hfin
  clear hfin hh hs5
  go_wp2
  refine bodyPost_ret (v := .tuple #[.agg #[.int .i64 m'.kind, .int .i64 m'.from_, .int .i64 m'.to_, .slice m'.VA m'.vn m'.vc, .slice m'.EA m'.en m'.ecap], .bool true]) ?_ rfl ⟨m', rfl, HKEY.out, FIN.out.1, hmf, FIN.out.2⟩
  unfold set5 at y0 y1 y2 y3 y4
  simp [results, Try.results36, go_sem, y0, y1, y2, y3, y4]
end Go.Proofs.Ytcidmlpjobdakaa
