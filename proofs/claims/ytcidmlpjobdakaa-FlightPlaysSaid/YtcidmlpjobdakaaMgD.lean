/- Between. -/
import Derived.Test.YtcidmlpjobdakaaMgC
namespace Go.Proofs.Ytcidmlpjobdakaa
set_option linter.unusedSimpArgs false
set_option linter.unusedVariables false
set_option linter.unnecessarySimpa false
open Go.RowKit

def goes (f t : Int) (m : Mg) : Prop := m.from_ = f ∧ m.to_ = t
/-- The place of the first message from one to another, or -1. -/
def FirstAt (l : List Mg) (f t z : Int) : Prop := (z = -1 ∧ ∀ m ∈ l, ¬ goes f t m) ∨ ∃ (k : Nat) (m : Mg), z = (k : Int) ∧ l[k]? = some m ∧ goes f t m ∧ ∀ (j : Nat) (r : Mg), j < k → l[j]? = some r → ¬ goes f t r

set_option maxHeartbeats 400000 in
theorem between1_any (m : Mg) (f t : Int) (b1 b2 : Nat) (w : World) (h1 : w.cell? ⟨b1, 0, none⟩ = some (.int .i64 f)) (h2 : w.cell? ⟨b2, 0, none⟩ = some (.int .i64 t)) :
    Calls Try.prog 57 #[.agg (mc m).toArray, .pointer (some ⟨b1, 0, none⟩), .pointer (some ⟨b2, 0, none⟩)] w fun r w' => r = .returned (.bool (decide (m.from_ = f) && decide (m.to_ = t))) ∧ Below w.heap.size w w' := by
  have hl1 := World.block_lt_of_cell? _ _ h1
  have hl2 := World.block_lt_of_cell? _ _ h2
  by_cases hf : m.from_ = f
  · have d1 : (m.from_ == f) = true := by simp [hf]
    have d1' : decide (m.from_ = f) = true := by simp [hf]
    by_cases ht : m.to_ = t
    · have d2 : (m.to_ == t) = true := by simp [ht]
      have d2' : decide (m.to_ = t) = true := by simp [ht]
      rw [d1', d2']
      clear d1' d2' hf ht
      go_enter Try.func57, Try.ntmps57
      simp only [mc]
      go_wp2
      go_ret
      exact ⟨rfl, (Below.refl _ _).alloc (Nat.le_refl _) _⟩
    · have d2 : (m.to_ == t) = false := by simp [ht]
      have d2' : decide (m.to_ = t) = false := by simp [ht]
      rw [d1', d2']
      clear d1' d2' hf ht
      go_enter Try.func57, Try.ntmps57
      simp only [mc]
      go_wp2
      go_ret
      exact ⟨rfl, (Below.refl _ _).alloc (Nat.le_refl _) _⟩
  · have d1 : (m.from_ == f) = false := by simp [hf]
    have d1' : decide (m.from_ = f) = false := by simp [hf]
    rw [d1', Bool.false_and]
    clear d1' hf
    go_enter Try.func57, Try.ntmps57
    simp only [mc]
    go_wp2
    go_ret
    exact ⟨rfl, (Below.refl _ _).alloc (Nat.le_refl _) _⟩

set_option maxHeartbeats 800000 in
theorem indexFunc_any (A : Option Addr) (n c : Nat) (l : List Mg) (f t : Int) (b1 b2 : Nat) (w : World) (hb : Reads w (· < w.heap.size) 5 A n (mcs l)) (h1 : w.cell? ⟨b1, 0, none⟩ = some (.int .i64 f)) (h2 : w.cell? ⟨b2, 0, none⟩ = some (.int .i64 t)) (hn : n ≤ 9223372036854775807) :
    Calls Try.prog 56 #[.slice A n c, .func (.func 57) #[] #[.pointer (some ⟨b1, 0, none⟩), .pointer (some ⟨b2, 0, none⟩)]] w fun r w' => ∃ z : Int, r = .returned (.int .i64 z) ∧ FirstAt l f t z ∧ Below w.heap.size w w' := by
  have hl1 := World.block_lt_of_cell? _ _ h1
  have hl2 := World.block_lt_of_cell? _ _ h2
  have hlen : l.length = n := by have := hb.1; rw [mcs_length] at this; omega
  go_enter Try.func56, Try.ntmps56
  go_wp2
  go_loopw [8] (fun i wr => ∃ k : Nat, k ≤ n ∧ i = .int .i64 k ∧ (∀ (j : Nat) (r : Mg), j < k → l[j]? = some r → ¬ goes f t r) ∧ Below w.heap.size w wr) (fun i _ => n - (intOf i).toNat)
  case atStart => exact ⟨0, by omega, rfl, fun j r hj => by omega, Below.refl _ _⟩
  case round =>
    obtain ⟨k, hk, rfl, hno, hB⟩ := hrel
    have HNO := Lib.hid hno
    clear hno
    by_cases hlt : k < n
    · obtain ⟨m, hm⟩ : ∃ m, l[k]? = some m := ⟨_, List.getElem?_eq_getElem (by rw [hlen]; exact hlt)⟩
      obtain ⟨b, off, rfl, hbb⟩ := Reads.at_ hb (by omega)
      have cells : ∀ j u, (mc m)[j]? = some u → wr.cell? ⟨b, off + k * 5 + j, none⟩ = some u := fun j u hu => by
        have hj : j < 5 := by have := (List.getElem?_eq_some_iff.1 hu).1; rwa [mc_length] at this
        have := Reads.cell (hb.below hB) rfl (j := k * 5 + j) (u := u) (by rw [mcs_get l k j m hm hj]; exact hu)
        rwa [← Nat.add_assoc] at this
      have y0 := cells 0 _ rfl
      have y1 := cells 1 _ rfl
      have y2 := cells 2 _ rfl
      have y3 := cells 3 _ rfl
      have y4 := cells 4 _ rfl
      rw [Nat.add_zero] at y0
      have hk0 : (0 : Int) ≤ (k : Int) := by omega
      have hk1 : (k : Int) < (n : Int) := by omega
      have e1 := (hB.cell (p := ⟨b1, 0, none⟩) hl1).trans h1
      have e2 := (hB.cell (p := ⟨b2, 0, none⟩) hl2).trans h2
      have HM := Lib.hid hm
      clear hm cells
      go_wp2_with fail
      refine (between1_any m f t b1 b2 wr e1 e2).mono ?_
      rintro e w2 ⟨rfl, bb⟩
      have B2 := next_below hB bb
      clear y0 y1 y2 y3 y4 e1 e2 bb hB
      by_cases hg : goes f t m
      · have hd : (decide (m.from_ = f) && decide (m.to_ = t)) = true := by simp [hg.1, hg.2]
        rw [hd]
        have HG := Lib.hid hg
        clear hd hg
        go_wp2
        go_ret
        exact ⟨(k : Int), rfl, .inr ⟨k, m, rfl, HM.out, HG.out, HNO.out⟩, B2⟩
      · have hd : (decide (m.from_ = f) && decide (m.to_ = t)) = false := by
          by_cases h5 : m.from_ = f
          · have : ¬ m.to_ = t := fun h6 => hg ⟨h5, h6⟩
            simp [this]
          · simp [h5]
        rw [hd]
        have HG := Lib.hid hg
        clear hd hg
        go_wp2
        go_roundw
        case rel => exact ⟨k + 1, by omega, by go_num, fun j r hj hr => by
          by_cases h7 : j = k
          · subst h7
            rw [HM.out] at hr
            cases hr
            exact HG.out
          · exact HNO.out j r (by omega) hr, B2⟩
        case measure => simp [intOf]; omega
    · obtain rfl : k = n := by omega
      go_wp2
      go_ret
      refine ⟨-1, rfl, .inl ⟨rfl, fun m hm => ?_⟩, hB⟩
      obtain ⟨j, hj, hjm⟩ := List.getElem_of_mem hm
      exact HNO.out j m (by omega) (by rw [List.getElem?_eq_getElem hj, hjm])

set_option maxHeartbeats 400000 in
theorem between_any (w : World) (S : Nat → Prop) (g : Nat) (ms : List Mg) (h : Fli w S g ms) (f t : Int) :
    Calls Try.prog 37 #[.pointer (some ⟨g, 0, none⟩), .int .i64 f, .int .i64 t] w fun r w' => ∃ z : Int, r = .returned (.int .i64 z) ∧ FirstAt ms f t z ∧ Below w.heap.size w w' := by
  have hmf : ∀ (fn : Fn) (first cap : Array Value) (w : World), (Instr.makeFunc fn first cap).run Try.prog w = .ok (.func fn first cap) w := fun _ _ _ _ => rfl
  obtain ⟨⟨v, hc, ho, hv, hm⟩, ⟨hg1, hg2, hg3⟩, hSw⟩ := h
  obtain ⟨A, c, rfl, hc1, hc2, _⟩ := own_form ho
  have hn : ms.length ≤ 9223372036854775807 := by omega
  have hr : Reads w (· < w.heap.size) 5 A ms.length (mcs ms) := Reads.more (own_reads ho) fun _ h => h.2
  obtain ⟨M, hM⟩ : ∃ M, M = ms.length := ⟨_, rfl⟩
  rw [← hM] at hc hn hr
  obtain ⟨w2, hw2⟩ : ∃ w2, w2 = (w.alloc (.cells #[.int .i64 f] 3)).alloc (.cells #[.int .i64 t] 3) := ⟨_, rfl⟩
  have k2 : Below w.heap.size w w2 := by rw [hw2]; exact ((Below.refl _ _).alloc (Nat.le_refl _) _).alloc (by simp) _
  have p0 : w2.cell? ⟨w.heap.size, 0, none⟩ = some (.int .i64 f) := by rw [hw2, World.cell?_alloc_past _ _ _ (by simp), World.cell?_alloc_at _ _ _ _ rfl]; rfl
  have p1 : w2.cell? ⟨w.heap.size + 1, 0, none⟩ = some (.int .i64 t) := by rw [hw2, World.cell?_alloc_at _ _ _ _ (by simp)]; rfl
  have HW := Lib.hid hw2
  clear hw2 hM hm ho hv
  go_enter Try.func37, Try.ntmps37
  go_wp2_with fail
  rw [← HW.out]
  refine (indexFunc_any A M c ms f t w.heap.size (w.heap.size + 1) w2 (Reads.more (Reads.below hr k2) fun i hi => Nat.lt_of_lt_of_le hi k2.size) p0 p1 hn).mono ?_
  rintro e w3 ⟨z, rfl, hz, b3⟩
  have k3 := next_below k2 b3
  go_wp2
  go_ret
  exact ⟨z, rfl, hz, k3⟩
end Go.Proofs.Ytcidmlpjobdakaa
