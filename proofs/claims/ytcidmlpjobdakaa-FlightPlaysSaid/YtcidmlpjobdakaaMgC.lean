/- Look. -/
import Derived.Test.YtcidmlpjobdakaaMgB
namespace Go.Proofs.Ytcidmlpjobdakaa
set_option linter.unusedSimpArgs false
set_option linter.unusedVariables false
set_option linter.unnecessarySimpa false
open Go.RowKit

def zeroMg : Mg := ⟨0, 0, 0, none, 0, 0, [], none, 0, 0, []⟩
theorem zeroMg_R (w : World) (P : Nat → Prop) : MgR w P zeroMg := ⟨RN.nil _ _ _, ⟨Nat.le_refl _, by decide, fun _ => rfl⟩, RE.nil _ _ _, Nat.le_refl _, by decide, fun _ => rfl⟩
theorem zeroMg_fits : Fits zeroMg := ⟨by decide, by decide, fun e h => by cases h⟩

set_option maxHeartbeats 800000 in
theorem look_out (w : World) (S : Nat → Prop) (g : Nat) (ms : List Mg) (h : Fli w S g ms) (i : Int) (hi : i < 0 ∨ (ms.length : Int) ≤ i) :
    Calls Try.prog 32 #[.pointer (some ⟨g, 0, none⟩), .int .i64 i] w fun r w' => r = .returned (.tuple #[.agg (mc zeroMg).toArray, .bool false]) ∧ Below w.heap.size w w' := by
  obtain ⟨⟨v, hc, ho, hv, hm⟩, ⟨hg1, hg2, hg3⟩, hSw⟩ := h
  obtain ⟨A, c, rfl, _⟩ := own_form ho
  obtain ⟨M, hM⟩ : ∃ M, M = ms.length := ⟨_, rfl⟩
  rw [← hM] at hc hi
  clear hM hm ho hv
  by_cases h1 : i < 0
  · have d1 : decide (i < 0) = true := by simp; omega
    go_enter Try.func32, Try.ntmps32
    go_wp2
    refine bodyPost_ret (v := .tuple #[.agg #[.int .i64 0, .int .i64 0, .int .i64 0, .slice none 0 0, .slice none 0 0], .bool false]) ?_ rfl ⟨rfl, (Below.refl _ _).alloc (Nat.le_refl _) _⟩
    simp [results, Try.results32, go_sem]
  · have d1 : decide (i < 0) = false := by simp; omega
    have d2 : decide ((M : Int) ≤ i) = true := by simp; omega
    go_enter Try.func32, Try.ntmps32
    go_wp2
    refine bodyPost_ret (v := .tuple #[.agg #[.int .i64 0, .int .i64 0, .int .i64 0, .slice none 0 0, .slice none 0 0], .bool false]) ?_ rfl ⟨rfl, (Below.refl _ _).alloc (Nat.le_refl _) _⟩
    simp [results, Try.results32, go_sem]

set_option maxHeartbeats 800000 in
set_option maxRecDepth 100000 in
theorem look_in (w : World) (S : Nat → Prop) (g : Nat) (ms : List Mg) (h : Fli w S g ms) (k : Nat) (m : Mg) (hk : ms[k]? = some m) :
    Calls Try.prog 32 #[.pointer (some ⟨g, 0, none⟩), .int .i64 (k : Int)] w fun r w' => ∃ m', r = .returned (.tuple #[.agg (mc m').toArray, .bool true]) ∧ mkey m' = mkey m ∧ MgR w' (fun i => w.heap.size ≤ i ∧ i < w'.heap.size) m' ∧ Fits m' ∧ Below w.heap.size w w' := by
  obtain ⟨⟨v, hc, ho, hv, hm⟩, ⟨hg1, hg2, hg3⟩, hSw⟩ := h
  have hkl : k < ms.length := (List.getElem?_eq_some_iff.1 hk).1
  have hmm := hm m (List.mem_of_getElem? hk)
  obtain ⟨gl, cl, rfl, hcl, hcl2, hgl, hgl2⟩ := own_at ho (by omega)
  have cells : ∀ j u, (mc m)[j]? = some u → w.cell? ⟨gl, k * 5 + j, none⟩ = some u := fun j u hu => by
    have hj : j < 5 := by have := (List.getElem?_eq_some_iff.1 hu).1; rwa [mc_length] at this
    have := Reads.cell (own_reads ho) rfl (j := k * 5 + j) (u := u) (by rw [mcs_get ms k j m hk hj]; exact hu)
    rwa [Nat.zero_add] at this
  obtain ⟨M, hM⟩ : ∃ M, M = ms.length := ⟨_, rfl⟩
  rw [← hM] at hc hkl hcl
  obtain ⟨w0, hw0⟩ : ∃ w0, w0 = w.alloc (.cells #[.int .i64 0, .int .i64 0, .int .i64 0, .slice none 0 0, .slice none 0 0] 54) := ⟨_, rfl⟩
  have k0 : Below w.heap.size w w0 := by rw [hw0]; exact (Below.refl _ _).alloc (Nat.le_refl _) _
  have z0 : w0.heap.size = w.heap.size + 1 := by rw [hw0]; simp
  have rx : ∀ j u, [Value.int .i64 0, .int .i64 0, .int .i64 0, .slice none 0 0, .slice none 0 0][j]? = some u → w0.cell? ⟨w.heap.size, j, none⟩ = some u := by
    intro j u hu
    rw [hw0, World.cell?_alloc_at _ _ _ _ rfl]
    simpa using hu
  have fx : ∀ j, w0.frozen? ⟨w.heap.size, j, none⟩ = false := fun j => by rw [hw0]; exact World.frozen?_alloc_at _ _ _ j rfl
  have c0 := (k0.cell (p := ⟨g, 0, none⟩) hg2).trans hc
  have y0 := (k0.cell (p := ⟨gl, k * 5 + 0, none⟩) hgl2).trans (cells 0 _ rfl)
  have y1 := (k0.cell (p := ⟨gl, k * 5 + 1, none⟩) hgl2).trans (cells 1 _ rfl)
  have y2 := (k0.cell (p := ⟨gl, k * 5 + 2, none⟩) hgl2).trans (cells 2 _ rfl)
  have y3 := (k0.cell (p := ⟨gl, k * 5 + 3, none⟩) hgl2).trans (cells 3 _ rfl)
  have y4 := (k0.cell (p := ⟨gl, k * 5 + 4, none⟩) hgl2).trans (cells 4 _ rfl)
  have hmw : MgR w0 _ m := hmm.1.keep fun i hi => k0.block i (hSw i hi.1)
  have d1 : decide ((k : Int) < 0) = false := by simp
  have d2 : decide ((M : Int) ≤ (k : Int)) = false := by simp; omega
  have hkk0 : (0 : Int) ≤ (k : Int) := by omega
  have hkk1 : (k : Int) < (M : Int) := by omega
  rw [Nat.add_zero] at y0
  rw [hw0] at c0 y0 y1 y2 y3 y4
  have RX := Lib.hid rx
  have FX := Lib.hid fx
  clear rx fx cells hk ho hv hm hM hc
  go_enter Try.func32, Try.ntmps32
  go_wp2_with fail
  rw [← hw0]
  clear hw0 c0 y0 y1 y2 y3 y4
  refine (copied_any m _ w0 hmw (fun i hi => Nat.lt_of_lt_of_le (hSw i hi.1) k0.size) hmm.2).mono ?_
  rintro e w1 ⟨m', rfl, hkey, hm', hfit, b1⟩
  have t0 := (b1.cell (p := ⟨w.heap.size, 0, none⟩) (by show w.heap.size < _; omega)).trans (RX.out 0 _ rfl)
  have t1 := (b1.cell (p := ⟨w.heap.size, 1, none⟩) (by show w.heap.size < _; omega)).trans (RX.out 1 _ rfl)
  have t2 := (b1.cell (p := ⟨w.heap.size, 2, none⟩) (by show w.heap.size < _; omega)).trans (RX.out 2 _ rfl)
  have t3 := (b1.cell (p := ⟨w.heap.size, 3, none⟩) (by show w.heap.size < _; omega)).trans (RX.out 3 _ rfl)
  have t4 := (b1.cell (p := ⟨w.heap.size, 4, none⟩) (by show w.heap.size < _; omega)).trans (RX.out 4 _ rfl)
  have g0 := (froz_below b1 ⟨w.heap.size, 0, none⟩ (by show w.heap.size < _; omega)).trans (FX.out 0)
  have g1 := (froz_below b1 ⟨w.heap.size, 1, none⟩ (by show w.heap.size < _; omega)).trans (FX.out 1)
  have g2 := (froz_below b1 ⟨w.heap.size, 2, none⟩ (by show w.heap.size < _; omega)).trans (FX.out 2)
  have g3 := (froz_below b1 ⟨w.heap.size, 3, none⟩ (by show w.heap.size < _; omega)).trans (FX.out 3)
  have g4 := (froz_below b1 ⟨w.heap.size, 4, none⟩ (by show w.heap.size < _; omega)).trans (FX.out 4)
  obtain ⟨x0, x1, x2, x3, x4⟩ := set5_cells (W := w1) (g := w.heap.size) (u0 := .int .i64 m'.kind) (u1 := .int .i64 m'.from_) (u2 := .int .i64 m'.to_) (u3 := .slice m'.VA m'.vn m'.vc) (u4 := .slice m'.EA m'.en m'.ecap) (fun j hj => by
    match j, hj with
    | 0, _ => rw [t0]; rfl
    | 1, _ => rw [t1]; rfl
    | 2, _ => rw [t2]; rfl
    | 3, _ => rw [t3]; rfl
    | 4, _ => rw [t4]; rfl)
  have hs5 := set5_size w1 w.heap.size (.int .i64 m'.kind) (.int .i64 m'.from_) (.int .i64 m'.to_) (.slice m'.VA m'.vn m'.vc) (.slice m'.EA m'.en m'.ecap)
  have B6 : Below w.heap.size w (set5 w1 w.heap.size (.int .i64 m'.kind) (.int .i64 m'.from_) (.int .i64 m'.to_) (.slice m'.VA m'.vn m'.vc) (.slice m'.EA m'.en m'.ecap)) := set5_below (next_below k0 b1) (Nat.le_refl _)
  have mg : MgR (set5 w1 w.heap.size (.int .i64 m'.kind) (.int .i64 m'.from_) (.int .i64 m'.to_) (.slice m'.VA m'.vn m'.vc) (.slice m'.EA m'.en m'.ecap)) (fun i => w.heap.size ≤ i ∧ i < (set5 w1 w.heap.size (.int .i64 m'.kind) (.int .i64 m'.from_) (.int .i64 m'.to_) (.slice m'.VA m'.vn m'.vc) (.slice m'.EA m'.en m'.ecap)).heap.size) m' :=
    (hm'.keep fun i hi => set5_heap w1 w.heap.size i _ _ _ _ _ (by omega)).more fun i hi => ⟨by omega, by rw [hs5]; exact hi.2⟩
  have M1 := Lib.hid mg
  have M2 := Lib.hid hkey
  clear mg hkey hm'
  simp only [mc]
  go_wp2
  refine bodyPost_ret (v := .tuple #[.agg #[.int .i64 m'.kind, .int .i64 m'.from_, .int .i64 m'.to_, .slice m'.VA m'.vn m'.vc, .slice m'.EA m'.en m'.ecap], .bool true]) ?_ rfl ⟨m', rfl, M2.out, M1.out, hfit, B6⟩
  unfold set5 at x0 x1 x2 x3 x4
  simp [results, Try.results32, go_sem, x0, x1, x2, x3, x4]
end Go.Proofs.Ytcidmlpjobdakaa
