/- The document's flight: New, Len, Look, Between. -/
import Derived.Test.YtcidmlpjobdakaaCpB
namespace Go.Proofs.Ytcidmlpjobdakaa
set_option linter.unusedSimpArgs false
set_option linter.unusedVariables false
set_option linter.unnecessarySimpa false
open Go.RowKit

set_option maxHeartbeats 400000 in
theorem refNew_any (w : World) : Calls Try.prog 28 #[] w fun r w' => r = .returned (.pointer (some ⟨w.heap.size, 0, none⟩)) ∧ Fli w' (fun i => i = w.heap.size) w.heap.size [] ∧ Below w.heap.size w w' := by
  go_enter Try.func28, Try.ntmps28
  go_wp2
  go_ret
  refine ⟨rfl, ⟨⟨.slice none 0 0, World.cell?_alloc_at _ _ _ _ rfl, World.ownsRow_nil _ _ _ _, (fun i e => by cases e), fun m hm => (by cases hm)⟩, ⟨rfl, by simp, World.frozen?_alloc_at _ _ _ _ rfl⟩, fun i hi => by simp at hi ⊢; omega⟩, (Below.refl _ _).alloc (Nat.le_refl _) _⟩

set_option maxHeartbeats 400000 in
theorem refLen_any (w : World) (S : Nat → Prop) (g : Nat) (ms : List Mg) (h : Fli w S g ms) : Calls Try.prog 31 #[.pointer (some ⟨g, 0, none⟩)] w fun r w' => r = .returned (.int .i64 ms.length) ∧ w' = w := by
  obtain ⟨⟨v, hc, ho, hv, hm⟩, _⟩ := h
  obtain ⟨A, c, rfl, _⟩ := own_form ho
  go_enter Try.func31, Try.ntmps31
  go_wp2
  go_ret
  exact ⟨rfl, rfl⟩
set_option maxHeartbeats 800000 in
theorem refLook_out (w : World) (S : Nat → Prop) (g : Nat) (ms : List Mg) (h : Fli w S g ms) (i : Int) (hi : i < 0 ∨ (ms.length : Int) ≤ i) :
    Calls Try.prog 33 #[.pointer (some ⟨g, 0, none⟩), .int .i64 i] w fun r w' => r = .returned (.tuple #[.agg (mc zeroMg).toArray, .bool false]) ∧ Below w.heap.size w w' := by
  obtain ⟨⟨v, hc, ho, hv, hm⟩, ⟨hg1, hg2, hg3⟩, hSw⟩ := h
  obtain ⟨A, c, rfl, _⟩ := own_form ho
  obtain ⟨M, hM⟩ : ∃ M, M = ms.length := ⟨_, rfl⟩
  rw [← hM] at hc hi
  clear hM hm ho hv
  by_cases h1 : i < 0
  · have d1 : decide (i < 0) = true := by simp; omega
    go_enter Try.func33, Try.ntmps33
    go_wp2
    refine bodyPost_ret (v := .tuple #[.agg #[.int .i64 0, .int .i64 0, .int .i64 0, .slice none 0 0, .slice none 0 0], .bool false]) ?_ rfl ⟨rfl, (Below.refl _ _).alloc (Nat.le_refl _) _⟩
    simp [results, Try.results33, go_sem]
  · have d1 : decide (i < 0) = false := by simp; omega
    have d2 : decide ((M : Int) ≤ i) = true := by simp; omega
    go_enter Try.func33, Try.ntmps33
    go_wp2
    refine bodyPost_ret (v := .tuple #[.agg #[.int .i64 0, .int .i64 0, .int .i64 0, .slice none 0 0, .slice none 0 0], .bool false]) ?_ rfl ⟨rfl, (Below.refl _ _).alloc (Nat.le_refl _) _⟩
    simp [results, Try.results33, go_sem]

set_option maxHeartbeats 800000 in
set_option maxRecDepth 100000 in
theorem refLook_new (w : World) (S : Nat → Prop) (g : Nat) (ms : List Mg) (h : Fli w S g ms) (k : Nat) (m : Mg) (hk : ms[k]? = some m) :
    Calls Try.prog 33 #[.pointer (some ⟨g, 0, none⟩), .int .i64 (k : Int)] w fun r w' => ∃ m', r = .returned (.tuple #[.agg (mc m').toArray, .bool true]) ∧ mkey m' = mkey m ∧ MgIn w' w.heap.size w'.heap.size m' ∧ Below w.heap.size w w' := by
  obtain ⟨⟨v, hc, ho, hv, hm⟩, ⟨hg1, hg2, hg3⟩, hSw⟩ := h
  have hkl : k < ms.length := (List.getElem?_eq_some_iff.1 hk).1
  have hmm := hm m (List.mem_of_getElem? hk)
  obtain ⟨gl, cl, rfl, hcl, hcl2, hgl, hgl2⟩ := own_at ho (by omega)
  have cells : ∀ j u, (mc m)[j]? = some u → w.cell? ⟨gl, k * 5 + j, none⟩ = some u := fun j u hu => by
    have hj : j < 5 := by have := (List.getElem?_eq_some_iff.1 hu).1; rwa [mc_length] at this
    have := Reads.cell (own_reads ho) rfl (j := k * 5 + j) (u := u) (by rw [mcs_get ms k j m hk hj]; exact hu)
    rwa [Nat.zero_add] at this
  obtain ⟨M, hM⟩ : ∃ M, M = ms.length := ⟨_, rfl⟩
  rw [← hM] at hc hkl hcl
  obtain ⟨w0, hw0⟩ : ∃ w0, w0 = w.alloc (.cells #[.int .i64 0, .int .i64 0, .int .i64 0, .slice none 0 0, .slice none 0 0] 54) := ⟨_, rfl⟩
  have k0 : Below w.heap.size w w0 := by rw [hw0]; exact (Below.refl _ _).alloc (Nat.le_refl _) _
  have z0 : w0.heap.size = w.heap.size + 1 := by rw [hw0]; simp
  have rx : ∀ j u, [Value.int .i64 0, .int .i64 0, .int .i64 0, .slice none 0 0, .slice none 0 0][j]? = some u → w0.cell? ⟨w.heap.size, j, none⟩ = some u := by
    intro j u hu
    rw [hw0, World.cell?_alloc_at _ _ _ _ rfl]
    simpa using hu
  have fx : ∀ j, w0.frozen? ⟨w.heap.size, j, none⟩ = false := fun j => by rw [hw0]; exact World.frozen?_alloc_at _ _ _ j rfl
  have c0 := (k0.cell (p := ⟨g, 0, none⟩) hg2).trans hc
  have y0 := (k0.cell (p := ⟨gl, k * 5 + 0, none⟩) hgl2).trans (cells 0 _ rfl)
  have y1 := (k0.cell (p := ⟨gl, k * 5 + 1, none⟩) hgl2).trans (cells 1 _ rfl)
  have y2 := (k0.cell (p := ⟨gl, k * 5 + 2, none⟩) hgl2).trans (cells 2 _ rfl)
  have y3 := (k0.cell (p := ⟨gl, k * 5 + 3, none⟩) hgl2).trans (cells 3 _ rfl)
  have y4 := (k0.cell (p := ⟨gl, k * 5 + 4, none⟩) hgl2).trans (cells 4 _ rfl)
  have hmw : MgR w0 _ m := hmm.1.keep fun i hi => k0.block i (hSw i hi.1)
  have d1 : decide ((k : Int) < 0) = false := by simp
  have d2 : decide ((M : Int) ≤ (k : Int)) = false := by simp; omega
  have hkk0 : (0 : Int) ≤ (k : Int) := by omega
  have hkk1 : (k : Int) < (M : Int) := by omega
  rw [Nat.add_zero] at y0
  rw [hw0] at c0 y0 y1 y2 y3 y4
  have RX := Lib.hid rx
  have FX := Lib.hid fx
  clear rx fx cells hk ho hv hm hM hc
  go_enter Try.func33, Try.ntmps33
  go_wp2_with fail
  rw [← hw0]
  clear hw0 c0 y0 y1 y2 y3 y4
  refine (copyMsg_any m _ w0 hmw (fun i hi => Nat.lt_of_lt_of_le (hSw i hi.1) k0.size) hmm.2).mono ?_
  rintro e w1 ⟨m', rfl, hkey, hm', b1⟩
  have t0 := (b1.cell (p := ⟨w.heap.size, 0, none⟩) (by show w.heap.size < _; omega)).trans (RX.out 0 _ rfl)
  have t1 := (b1.cell (p := ⟨w.heap.size, 1, none⟩) (by show w.heap.size < _; omega)).trans (RX.out 1 _ rfl)
  have t2 := (b1.cell (p := ⟨w.heap.size, 2, none⟩) (by show w.heap.size < _; omega)).trans (RX.out 2 _ rfl)
  have t3 := (b1.cell (p := ⟨w.heap.size, 3, none⟩) (by show w.heap.size < _; omega)).trans (RX.out 3 _ rfl)
  have t4 := (b1.cell (p := ⟨w.heap.size, 4, none⟩) (by show w.heap.size < _; omega)).trans (RX.out 4 _ rfl)
  have g0 := (froz_below b1 ⟨w.heap.size, 0, none⟩ (by show w.heap.size < _; omega)).trans (FX.out 0)
  have g1 := (froz_below b1 ⟨w.heap.size, 1, none⟩ (by show w.heap.size < _; omega)).trans (FX.out 1)
  have g2 := (froz_below b1 ⟨w.heap.size, 2, none⟩ (by show w.heap.size < _; omega)).trans (FX.out 2)
  have g3 := (froz_below b1 ⟨w.heap.size, 3, none⟩ (by show w.heap.size < _; omega)).trans (FX.out 3)
  have g4 := (froz_below b1 ⟨w.heap.size, 4, none⟩ (by show w.heap.size < _; omega)).trans (FX.out 4)
  obtain ⟨x0, x1, x2, x3, x4⟩ := set5_cells (W := w1) (g := w.heap.size) (u0 := .int .i64 m'.kind) (u1 := .int .i64 m'.from_) (u2 := .int .i64 m'.to_) (u3 := .slice m'.VA m'.vn m'.vc) (u4 := .slice m'.EA m'.en m'.ecap) (fun j hj => by
    match j, hj with
    | 0, _ => rw [t0]; rfl
    | 1, _ => rw [t1]; rfl
    | 2, _ => rw [t2]; rfl
    | 3, _ => rw [t3]; rfl
    | 4, _ => rw [t4]; rfl)
  have hs5 := set5_size w1 w.heap.size (.int .i64 m'.kind) (.int .i64 m'.from_) (.int .i64 m'.to_) (.slice m'.VA m'.vn m'.vc) (.slice m'.EA m'.en m'.ecap)
  have B6 : Below w.heap.size w (set5 w1 w.heap.size (.int .i64 m'.kind) (.int .i64 m'.from_) (.int .i64 m'.to_) (.slice m'.VA m'.vn m'.vc) (.slice m'.EA m'.en m'.ecap)) := set5_below (next_below k0 b1) (Nat.le_refl _)
  have mg : MgIn (set5 w1 w.heap.size (.int .i64 m'.kind) (.int .i64 m'.from_) (.int .i64 m'.to_) (.slice m'.VA m'.vn m'.vc) (.slice m'.EA m'.en m'.ecap)) w.heap.size (set5 w1 w.heap.size (.int .i64 m'.kind) (.int .i64 m'.from_) (.int .i64 m'.to_) (.slice m'.VA m'.vn m'.vc) (.slice m'.EA m'.en m'.ecap)).heap.size m' := (hm'.keep fun i h1 h2 => set5_heap w1 w.heap.size i _ _ _ _ _ (by omega)).wide (by omega) (by rw [hs5]; exact Nat.le_refl _)
  have M1 := Lib.hid mg
  have M2 := Lib.hid hkey
  clear mg hkey hm'
  simp only [mc]
  go_wp2
  refine bodyPost_ret (v := .tuple #[.agg #[.int .i64 m'.kind, .int .i64 m'.from_, .int .i64 m'.to_, .slice m'.VA m'.vn m'.vc, .slice m'.EA m'.en m'.ecap], .bool true]) ?_ rfl ⟨m', rfl, M2.out, M1.out, B6⟩
  unfold set5 at x0 x1 x2 x3 x4
  simp [results, Try.results33, go_sem, x0, x1, x2, x3, x4]

set_option maxHeartbeats 800000 in
set_option maxRecDepth 100000 in
theorem refBetween_any (w : World) (S : Nat → Prop) (g : Nat) (ms : List Mg) (h : Fli w S g ms) (f t : Int) :
    Calls Try.prog 49 #[.pointer (some ⟨g, 0, none⟩), .int .i64 f, .int .i64 t] w fun r w' => ∃ z : Int, r = .returned (.int .i64 z) ∧ FirstAt ms f t z ∧ ∃ q, w' = w.drewN q := by
  obtain ⟨⟨v, hc, ho, hv, hm⟩, ⟨hg1, hg2, hg3⟩, hSw⟩ := h
  obtain ⟨A, c, rfl, hc1, hc2, _⟩ := own_form ho
  have hr : Reads w (· < w.heap.size) 5 A ms.length (mcs ms) := Reads.more (own_reads ho) fun _ h => h.2
  obtain ⟨n, hn⟩ : ∃ n, n = ms.length := ⟨_, rfl⟩
  rw [← hn] at hc hc1 hr
  have HN := Lib.hid hn
  clear hn hm ho hv
  go_enter Try.func49, Try.ntmps49
  go_wp2
  go_loopw [7] (fun i wr => ∃ k q : Nat, k ≤ n ∧ i = .int .i64 k ∧ (∀ (j : Nat) (r : Mg), j < k → ms[j]? = some r → ¬ goes f t r) ∧ wr = w.drewN q) (fun i _ => n - (intOf i).toNat)
  case atStart => exact ⟨0, 0, by omega, rfl, fun j r hj => by omega, rfl⟩
  case round =>
    obtain ⟨k, q, hk, rfl, hno, rfl⟩ := hrel
    have HNO := Lib.hid hno
    clear hno
    have hc' : (w.drewN q).cell? ⟨g, 0, none⟩ = some (.slice A n c) := hc
    by_cases hlt : k < n
    · obtain ⟨m, hm⟩ : ∃ m, ms[k]? = some m := ⟨_, List.getElem?_eq_getElem (by rw [← HN.out]; exact hlt)⟩
      obtain ⟨b, off, rfl, hbb⟩ := Reads.at_ hr (by omega)
      have cells : ∀ j u, (mc m)[j]? = some u → (w.drewN q).cell? ⟨b, off + k * 5 + j, none⟩ = some u := fun j u hu => by
        have hj : j < 5 := by have := (List.getElem?_eq_some_iff.1 hu).1; rwa [mc_length] at this
        have := Reads.cell (hr.drewN q) rfl (j := k * 5 + j) (u := u) (by rw [mcs_get ms k j m hm hj]; exact hu)
        rwa [← Nat.add_assoc] at this
      have y1 := cells 1 _ rfl
      have y2 := cells 2 _ rfl
      have hk0 : (0 : Int) ≤ (k : Int) := by omega
      have hk1 : (k : Int) < (n : Int) := by omega
      have HM := Lib.hid hm
      clear hm cells
      by_cases h1 : m.from_ = f
      · have d1 : (m.from_ == f) = true := by simp [h1]
        by_cases h2 : m.to_ = t
        · have d2 : (m.to_ == t) = true := by simp [h2]
          have HG : Hid (goes f t m) := Lib.hid ⟨h1, h2⟩
          clear h1 h2
          go_wp2
          go_ret
          exact ⟨(k : Int), rfl, .inr ⟨k, m, rfl, HM.out, HG.out, HNO.out⟩, _, rfl⟩
        · have d2 : (m.to_ == t) = false := by simp [h2]
          have HG : Hid (¬ goes f t m) := Lib.hid fun e => h2 e.2
          clear h1 h2
          go_wp2
          go_roundw
          case rel => exact ⟨k + 1, q, by omega, by go_num, fun j r hj hr => by
            by_cases h7 : j = k
            · subst h7
              rw [HM.out] at hr
              cases hr
              exact HG.out
            · exact HNO.out j r (by omega) hr, rfl⟩
          case measure => simp [intOf]; omega
      · have d1 : (m.from_ == f) = false := by simp [h1]
        have HG : Hid (¬ goes f t m) := Lib.hid fun e => h1 e.1
        clear h1
        go_wp2
        go_roundw
        case rel => exact ⟨k + 1, q, by omega, by go_num, fun j r hj hr => by
          by_cases h7 : j = k
          · subst h7
            rw [HM.out] at hr
            cases hr
            exact HG.out
          · exact HNO.out j r (by omega) hr, rfl⟩
        case measure => simp [intOf]; omega
    · obtain rfl : k = n := by omega
      go_wp2
      go_ret
      refine ⟨-1, rfl, .inl ⟨rfl, fun m hm => ?_⟩, _, rfl⟩
      obtain ⟨j, hj, hjm⟩ := List.getElem_of_mem hm
      exact HNO.out j m (by have := HN.out; omega) (by rw [List.getElem?_eq_getElem hj, hjm])
end Go.Proofs.Ytcidmlpjobdakaa
