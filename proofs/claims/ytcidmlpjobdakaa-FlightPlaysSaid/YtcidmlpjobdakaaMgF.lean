/- slices.Delete of one message; Take. -/
import Derived.Test.YtcidmlpjobdakaaMgE
import Derived.Lib.SliceRun
namespace Go.Proofs.Ytcidmlpjobdakaa
set_option linter.unusedSimpArgs false
set_option linter.unusedVariables false
set_option linter.unnecessarySimpa false
open Go.RowKit

theorem heap_setCell_at {w : World} {g o : Nat} {u : Value} {cur : Array Value} {e : TypeId} {fr : Nat × Nat} (h : w.heap[g]? = some (.cells cur e fr)) : ∃ cur', (w.setCell ⟨g, o, none⟩ u).heap[g]? = some (.cells cur' e fr) ∧ cur'.size = cur.size := by
  refine ⟨cur.setIfInBounds o u, ?_, by simp⟩
  have hl := (Array.getElem?_eq_some_iff.1 h).1
  have he : w.heap[g] = .cells cur e fr := (Array.getElem?_eq_some_iff.1 h).2
  simp [World.setCell, hl, Array.getElem_modify, he]
theorem heap_setCells_at {g : Nat} {e : TypeId} {fr : Nat × Nat} : ∀ (vs : List Value) (o : Nat) (w : World) (cur : Array Value), w.heap[g]? = some (.cells cur e fr) → ∃ cur', (w.setCells g o vs).heap[g]? = some (.cells cur' e fr) ∧ cur'.size = cur.size
  | [], _, w, cur, h => ⟨cur, h, rfl⟩
  | v :: r, o, w, cur, h => by
    obtain ⟨c1, h1, e1⟩ := heap_setCell_at (o := o) (u := v) h
    obtain ⟨c2, h2, e2⟩ := heap_setCells_at r (o + 1) _ c1 h1
    exact ⟨c2, h2, e2.trans e1⟩
theorem heap_setCells_far (g : Nat) : ∀ (vs : List Value) (o : Nat) (w : World) (i : Nat), i ≠ g → (w.setCells g o vs).heap[i]? = w.heap[i]?
  | [], _, _, _, _ => rfl
  | v :: r, o, w, i, h => by rw [World.setCells, heap_setCells_far g r (o + 1) _ i h, Below.heap_setCell _ _ _ _ (by exact h)]
theorem size_setCells (g : Nat) : ∀ (vs : List Value) (o : Nat) (w : World), (w.setCells g o vs).heap.size = w.heap.size
  | [], _, _ => rfl
  | v :: r, o, w => by rw [World.setCells, size_setCells g r (o + 1)]; simp
theorem below0_setCells (g : Nat) : ∀ (vs : List Value) (o : Nat) (w : World), Below 0 w (w.setCells g o vs)
  | [], _, w => Below.refl _ _
  | v :: r, o, w => ((Below.refl 0 w).setCell (p := ⟨g, o, none⟩) (Nat.zero_le _) v).trans (below0_setCells g r (o + 1) _)
/-- A row of its own, by its cells. -/
theorem own_of_cells {w : World} {base g n cap size : Nat} {e : TypeId} {cur : Array Value} {xs : List Value} (hg : w.heap[g]? = some (.cells cur e (0, 0))) (hb : base ≤ g) (hn : n ≤ cap) (hc : cap ≤ maxLen) (hs : cur.size = cap * size) (hx : xs.length = n * size)
    (h : ∀ j, j < n * size → w.cell? ⟨g, j, none⟩ = xs[j]?) : w.ownsRow base e size (.slice (some ⟨g, 0, none⟩) n cap) n xs := by
  refine ⟨hx, .inr ⟨g, cap, cur, rfl, hb, hg, hn, hc, hs, ?_⟩⟩
  have hle : n * size ≤ cap * size := Nat.mul_le_mul_right _ hn
  apply List.ext_getElem?
  intro j
  by_cases hj : j < n * size
  · rw [List.getElem?_take_of_lt hj, ← h j hj, cell_of_row w g j cur e (0, 0) hg]
    simp
  · rw [List.getElem?_eq_none (by simp; omega), List.getElem?_eq_none (by omega)]

def zeros5 : List Value := [.int .i64 0, .int .i64 0, .int .i64 0, .slice none 0 0, .slice none 0 0]
theorem zeroMsg (w : World) : (zeroValue 54).run Try.prog w = .ok (.agg zeros5.toArray) w := rfl
/-- 'clear(s)' of a slice of one message. -/
theorem run_clear1 (w : World) (ty : TypeId) (b o c : Nat) (hc : ∀ j, j < 5 → (w.cell? ⟨b, o + j, none⟩).isSome = true) (hf : ∀ j, j < 5 → w.frozen? ⟨b, o + j, none⟩ = false) :
    (Builtin.clear_ #[48] ty #[.slice (some ⟨b, o, none⟩) 1 c]).run Try.prog w = .ok (.tuple #[]) (w.setCells b o zeros5) := by
  have hu : Try.prog.underlying 48 = some (.slice 54) := Try.underlying48
  have hst := run_storeCells_cells (P := Try.prog) b o zeros5 0 w (by simpa [zeros5] using hc) (by simpa [zeros5] using hf) (by intro v hv; simp [zeros5] at hv; rcases hv with rfl | rfl | rfl <;> rfl)
  simp only [Nat.add_zero] at hst
  have hz : (Builtin.zeroCells (Value.agg #[.int .i64 0, .int .i64 0, .int .i64 0, .slice none 0 0, .slice none 0 0]).cells 1).toList = zeros5 := by kernel_rfl
  simp [Builtin.clear_, run_underlying hu, zeroMsg, hz, hst, Result.andThen]
theorem mcs_erase_lo (ms : List Mg) (k j : Nat) (hj : j < k * 5) : (mcs (ms.eraseIdx k))[j]? = (mcs ms)[j]? := by
  have h1 : (mcs (ms.eraseIdx k))[j]? = (mcs ((ms.eraseIdx k).take k))[j]? := by rw [← mcs_take, List.getElem?_take_of_lt hj]
  have h2 : (mcs ms)[j]? = (mcs (ms.take k))[j]? := by rw [← mcs_take, List.getElem?_take_of_lt hj]
  have h3 : (ms.eraseIdx k).take k = ms.take k := by
    apply List.ext_getElem?
    intro i
    by_cases hi : i < k
    · rw [List.getElem?_take_of_lt hi, List.getElem?_take_of_lt hi, List.getElem?_eraseIdx_of_lt hi]
    · rw [List.getElem?_eq_none (by simp; omega), List.getElem?_eq_none (by simp; omega)]
  rw [h1, h2, h3]
theorem mcs_erase_hi (ms : List Mg) (k j : Nat) (hj : k * 5 ≤ j) : (mcs (ms.eraseIdx k))[j]? = (mcs (ms.drop (k + 1)))[j - k * 5]? := by
  have h1 : (mcs (ms.eraseIdx k)).drop (k * 5) = mcs (ms.drop (k + 1)) := by
    rw [mcs_drop]
    congr 1
    apply List.ext_getElem?
    intro i
    rw [List.getElem?_drop, List.getElem?_drop, List.getElem?_eraseIdx_of_ge (by omega), show k + i + 1 = k + 1 + i from by omega]
  rw [← h1, List.getElem?_drop, show k * 5 + (j - k * 5) = j from by omega]

set_option maxHeartbeats 1600000 in
set_option maxRecDepth 100000 in
theorem delete_any (b cap N k : Nat) (ms : List Mg) (w : World) (hl : ms.length = N + 1) (ho : w.ownsRow 0 54 5 (.slice (some ⟨b, 0, none⟩) (N + 1) cap) (N + 1) (mcs ms)) (hk : k ≤ N) :
    Calls Try.prog 55 #[.slice (some ⟨b, 0, none⟩) (N + 1) cap, .int .i64 (k : Int), .int .i64 ((k : Int) + 1)] w fun r w' => r = .returned (.slice (some ⟨b, 0, none⟩) N cap) ∧ w'.ownsRow 0 54 5 (.slice (some ⟨b, 0, none⟩) N cap) N (mcs (ms.eraseIdx k)) ∧ (∀ i, i ≠ b → w'.heap[i]? = w.heap[i]?) ∧ w'.heap.size = w.heap.size ∧ Below 0 w w' := by
  obtain ⟨cur, hcur, hNc, hcm, hcs⟩ : ∃ cur, w.heap[b]? = some (.cells cur 54 (0, 0)) ∧ N + 1 ≤ cap ∧ cap ≤ maxLen ∧ cur.size = cap * 5 := by
    rcases ho.2 with ⟨h, _⟩ | ⟨g, cap', cur, hv, _, hg, h1, h2, h3, _⟩
    · cases h
    · injection hv with hv1 hv2 hv3
      injection hv1 with hv1
      injection hv1 with hv1
      subst hv1; subst hv3
      exact ⟨cur, hg, h1, h2, h3⟩
  unfold maxLen at hcm
  obtain ⟨news, hnews⟩ : ∃ news, news = mcs (ms.drop (k + 1)) := ⟨_, rfl⟩
  have hnl : news.length = (N - k) * 5 := by rw [hnews, mcs_length, List.length_drop, hl]; omega
  have hin : ∀ j, j < cap * 5 → (w.cell? ⟨b, j, none⟩).isSome = true := fun j hj => by rw [cell_of_row w b j cur _ (0, 0) hcur, Array.getElem?_eq_getElem (by omega)]; rfl
  have hfr : ∀ j, w.frozen? ⟨b, j, none⟩ = false := fun j => own_froz ho j
  have hold : ∀ j, j < (N + 1) * 5 → w.cell? ⟨b, j, none⟩ = (mcs ms)[j]? := fun j hj => by
    have h1 : ∃ u, (mcs ms)[j]? = some u := ⟨_, List.getElem?_eq_getElem (by rw [mcs_length]; omega)⟩
    obtain ⟨u, hu⟩ := h1
    rw [hu]
    have := Reads.cell (own_reads ho) rfl (j := j) (u := u) hu
    rwa [Nat.zero_add] at this
  have hsrc : ∀ A : Option Addr, A = (if cap = k + 1 then some ⟨b, 0, none⟩ else some ⟨b, (k + 1) * 5, none⟩) → ∃ ad : Addr, A = some ad ∧ ∀ t u, news[t]? = some u → w.drew.cell? (ad.add t) = some u := by
    intro A hA
    by_cases h : cap = k + 1
    · refine ⟨⟨b, 0, none⟩, by rw [hA, if_pos h], fun t u hu => ?_⟩
      have h0 : news.length = 0 := by rw [hnl]; have : N - k = 0 := by omega
                                      rw [this]
      rw [List.length_eq_zero_iff.1 h0] at hu
      cases hu
    · refine ⟨⟨b, (k + 1) * 5, none⟩, by rw [hA, if_neg h], fun t u hu => ?_⟩
      have ht : t < (N - k) * 5 := by have := (List.getElem?_eq_some_iff.1 hu).1; rwa [hnl] at this
      rw [hnews, ← mcs_drop, List.getElem?_drop] at hu
      show w.cell? ((⟨b, (k + 1) * 5, none⟩ : Addr).add t) = some u
      rw [show (⟨b, (k + 1) * 5, none⟩ : Addr).add t = ⟨b, (k + 1) * 5 + t, none⟩ from by unfold Addr.add; split <;> simp_all, hold _ (by omega)]
      exact hu
  have s1 : ∀ u ∈ news, u.oneCell' = true := by rw [hnews]; exact mcs_one _
  have s2 : ∀ t, t < news.length → (w.drew.cell? ⟨b, 0 + k * 5 + t, none⟩).isSome = true ∧ w.drew.frozen? ⟨b, 0 + k * 5 + t, none⟩ = false := fun t ht => ⟨hin _ (by omega), hfr _⟩
  obtain ⟨i0, hi0, hz0, hs0, hb0⟩ := info_parts infoMsg
  have hk0 : (0 : Int) ≤ (k : Int) := by omega
  have hk1 : (0 : Int) ≤ (k : Int) + 1 := by omega
  have hk2 : (k : Int) + 1 ≤ ((N + 1 : Nat) : Int) := by omega
  have hk3 : ((k : Int) + 1).toNat = k + 1 := by omega
  have hk4 : (k : Int) ≤ (k : Int) + 1 := by omega
  have hne : ((k : Int) == (k : Int) + 1) = false := by simp; omega
  have HO := Lib.hid ho
  have HL := Lib.hid hl
  have HCUR := Lib.hid hcur
  have HIN := Lib.hid hin
  have HFR := Lib.hid hfr
  have HOLD := Lib.hid hold
  have HSRC := Lib.hid hsrc
  have HNL := Lib.hid hnl
  have HNEWS := Lib.hid hnews
  have S1 := Lib.hid s1
  have S2 := Lib.hid s2
  clear ho hl hcur hin hfr hold hsrc hnl hnews s1 s2
  go_enter Try.func55, Try.ntmps55
  go_wp2_with fail
  obtain ⟨ad, had, hsrc⟩ := HSRC.out _ rfl
  have HAD := Lib.hid had
  have HS := Lib.hid hsrc
  clear had hsrc
  have hic : k ≤ cap := by omega
  obtain ⟨W1, hW1⟩ : ∃ W1, W1 = w.drew.setCells b (0 + k * 5) news := ⟨_, rfl⟩
  have HW1 := Lib.hid hW1
  clear hW1
  have hkN : k + (N - k) = N := by omega
  go_region_law (refine step_append_room rfl (.tmp 22) (.tmp 25) 48 rfl 54 i0 5 rfl hi0 hs0 b 0 k cap (by simp [Act.eval, Act.put]) ad (N - k) (cap - (k + 1)) news (by simp [Act.eval, Act.put]; exact HAD.out) HNL.out HS.out S1.out (by omega) S2.out ?_; rw [← HW1.out, hkN])
  rw [HAD.out]
  have hcN : ¬ cap = N := by omega
  have hcN2 : N ≤ cap := by omega
  have hin1 : ∀ j, j < cap * 5 → (W1.cell? ⟨b, j, none⟩).isSome = true := fun j hj => by
    obtain ⟨c1, h1, h2⟩ := heap_setCells_at news (0 + k * 5) w.drew cur HCUR.out
    rw [HW1.out, cell_of_row _ b j c1 _ (0, 0) h1, Array.getElem?_eq_getElem (by omega)]; rfl
  have hfr1 : ∀ j, W1.frozen? ⟨b, j, none⟩ = false := fun j => by rw [HW1.out, World.frozen?_setCells]; exact HFR.out j
  have hcl : ∀ ty, (Builtin.clear_ #[48] ty #[.slice (some ⟨b, N * 5, none⟩) 1 (cap - N)]).run Try.prog W1 = .ok (.tuple #[]) (W1.setCells b (N * 5) zeros5) := fun ty => run_clear1 W1 ty b (N * 5) (cap - N) (fun j hj => hin1 _ (by omega)) (fun j _ => hfr1 _)
  obtain ⟨W2, hW2⟩ : ∃ W2, W2 = W1.setCells b (N * 5) zeros5 := ⟨_, rfl⟩
  rw [← hW2] at hcl
  have HW2 := Lib.hid hW2
  clear hW2 hin1 hfr1
  go_wp2
  go_ret
  obtain ⟨c1, h1, h2⟩ := heap_setCells_at news (0 + k * 5) w.drew cur HCUR.out
  obtain ⟨c2, h3, h4⟩ := heap_setCells_at zeros5 (N * 5) W1 c1 (by rw [HW1.out]; exact h1)
  rw [← HW2.out] at h3
  have hlen2 : (ms.eraseIdx k).length = N := by rw [List.length_eraseIdx, HL.out, if_pos (by omega)]; rfl
  refine ⟨rfl, own_of_cells h3 (Nat.zero_le _) hcN2 (by unfold maxLen; exact hcm) (by omega) (by rw [mcs_length, hlen2]) (fun j hj => ?_), ?_, ?_, ?_⟩
  · rw [HW2.out, World.cell?_setCells_out b zeros5 (N * 5) W1 ⟨b, j, none⟩ (fun _ _ => .inl hj)]
    by_cases hjk : j < k * 5
    · rw [mcs_erase_lo ms k j hjk, HW1.out, World.cell?_setCells_out b news (0 + k * 5) w.drew ⟨b, j, none⟩ (fun _ _ => .inl (by show j < 0 + k * 5; omega))]
      exact HOLD.out j (by omega)
    · rw [mcs_erase_hi ms k j (by omega), ← HNEWS.out, HW1.out]
      have h6 := HNL.out
      have hlt : j - k * 5 < news.length := by omega
      have h5 := World.cell?_setCells_in b news (0 + k * 5) w.drew (fun t ht => (S2.out t ht).1) (j - k * 5) hlt
      rw [show 0 + k * 5 + (j - k * 5) = j from by omega] at h5
      rw [h5, List.getElem?_eq_getElem hlt]
  · intro i hi
    rw [HW2.out, heap_setCells_far _ _ _ _ i hi, HW1.out, heap_setCells_far _ _ _ _ i hi]; rfl
  · rw [HW2.out, size_setCells, HW1.out, size_setCells]; rfl
  · rw [HW2.out]
    refine Below.trans ?_ (below0_setCells _ _ _ _)
    rw [HW1.out]
    exact (Below.refl 0 w).drew.trans (below0_setCells _ _ _ _)

set_option maxHeartbeats 800000 in
theorem take_out (w : World) (S : Nat → Prop) (g : Nat) (ms : List Mg) (h : Fli w S g ms) (i : Int) (hi : i < 0 ∨ (ms.length : Int) ≤ i) :
    Calls Try.prog 36 #[.pointer (some ⟨g, 0, none⟩), .int .i64 i] w fun r w' => r = .returned (.tuple #[.agg (mc zeroMg).toArray, .bool false]) ∧ Below w.heap.size w w' := by
  obtain ⟨W0, hW0⟩ : ∃ W0, W0 = w.alloc (.cells #[.int .i64 0, .int .i64 0, .int .i64 0, .slice none 0 0, .slice none 0 0] 54) := ⟨_, rfl⟩
  have k0 : Below w.heap.size w W0 := by rw [hW0]; exact (Below.refl _ _).alloc (Nat.le_refl _) _
  have z0 : W0.heap.size = w.heap.size + 1 := by rw [hW0]; simp
  have rx : ∀ j u, [Value.int .i64 0, .int .i64 0, .int .i64 0, .slice none 0 0, .slice none 0 0][j]? = some u → W0.cell? ⟨w.heap.size, j, none⟩ = some u := by
    intro j u hu
    rw [hW0, World.cell?_alloc_at _ _ _ _ rfl]
    simpa using hu
  have fx : ∀ j, W0.frozen? ⟨w.heap.size, j, none⟩ = false := fun j => by rw [hW0]; exact World.frozen?_alloc_at _ _ _ j rfl
  have RX := Lib.hid rx
  have FX := Lib.hid fx
  have HW0 := Lib.hid hW0
  clear rx fx hW0
  go_enter Try.func36, Try.ntmps36
  go_wp2_with fail
  rw [← HW0.out]
  refine (look_out W0 S g ms (h.below k0) i hi).mono ?_
  rintro e w1 ⟨rfl, b1⟩
  simp only [mc, zeroMg]
  obtain ⟨wm, hwm⟩ : ∃ wm, wm = w1.alloc (.cells #[.int .i64 0, .int .i64 0, .int .i64 0, .slice none 0 0, .slice none 0 0] 54) := ⟨_, rfl⟩
  have z1 := b1.size
  have b2 : Below W0.heap.size W0 wm := by rw [hwm]; exact b1.alloc z1 _
  have xm : ∀ j u, [Value.int .i64 0, .int .i64 0, .int .i64 0, .slice none 0 0, .slice none 0 0][j]? = some u → wm.cell? ⟨w1.heap.size, j, none⟩ = some u := by
    intro j u hu
    rw [hwm, World.cell?_alloc_at _ _ _ _ rfl]
    simpa using hu
  have x0 := xm 0 _ rfl
  have x1 := xm 1 _ rfl
  have x2 := xm 2 _ rfl
  have x3 := xm 3 _ rfl
  have x4 := xm 4 _ rfl
  have t0 := (b2.cell (p := ⟨w.heap.size, 0, none⟩) (by show w.heap.size < _; omega)).trans (RX.out 0 _ rfl)
  have t1 := (b2.cell (p := ⟨w.heap.size, 1, none⟩) (by show w.heap.size < _; omega)).trans (RX.out 1 _ rfl)
  have t2 := (b2.cell (p := ⟨w.heap.size, 2, none⟩) (by show w.heap.size < _; omega)).trans (RX.out 2 _ rfl)
  have t3 := (b2.cell (p := ⟨w.heap.size, 3, none⟩) (by show w.heap.size < _; omega)).trans (RX.out 3 _ rfl)
  have t4 := (b2.cell (p := ⟨w.heap.size, 4, none⟩) (by show w.heap.size < _; omega)).trans (RX.out 4 _ rfl)
  have g0 := (froz_below b2 ⟨w.heap.size, 0, none⟩ (by show w.heap.size < _; omega)).trans (FX.out 0)
  have g1 := (froz_below b2 ⟨w.heap.size, 1, none⟩ (by show w.heap.size < _; omega)).trans (FX.out 1)
  have g2 := (froz_below b2 ⟨w.heap.size, 2, none⟩ (by show w.heap.size < _; omega)).trans (FX.out 2)
  have g3 := (froz_below b2 ⟨w.heap.size, 3, none⟩ (by show w.heap.size < _; omega)).trans (FX.out 3)
  have g4 := (froz_below b2 ⟨w.heap.size, 4, none⟩ (by show w.heap.size < _; omega)).trans (FX.out 4)
  have HWM := Lib.hid hwm
  clear hwm xm
  go_upto_region 2 with fail
  rw [← HWM.out]
  obtain ⟨y0, y1, y2, y3, y4⟩ := set5_cells (W := wm) (g := w.heap.size) (u0 := .int .i64 0) (u1 := .int .i64 0) (u2 := .int .i64 0) (u3 := .slice none 0 0) (u4 := .slice none 0 0) (fun j hj => by
    match j, hj with
    | 0, _ => rw [t0]; rfl
    | 1, _ => rw [t1]; rfl
    | 2, _ => rw [t2]; rfl
    | 3, _ => rw [t3]; rfl
    | 4, _ => rw [t4]; rfl)
  have B6 : Below w.heap.size w (set5 wm w.heap.size (.int .i64 0) (.int .i64 0) (.int .i64 0) (.slice none 0 0) (.slice none 0 0)) := set5_below (next_below k0 b2) (Nat.le_refl _)
  go_wp2
  refine bodyPost_ret (v := .tuple #[.agg #[.int .i64 0, .int .i64 0, .int .i64 0, .slice none 0 0, .slice none 0 0], .bool false]) ?_ rfl ⟨rfl, B6⟩
  unfold set5 at y0 y1 y2 y3 y4
  simp [results, Try.results36, go_sem, y0, y1, y2, y3, y4]
end Go.Proofs.Ytcidmlpjobdakaa
