/- Clone at events; messages, as they lie in memory; a cell of a row of the call's own, written. -/
import Derived.Test.YtcidmlpjobdakaaEvC
namespace Go.Proofs.Ytcidmlpjobdakaa
set_option linter.unusedSimpArgs false
set_option linter.unusedVariables false
set_option linter.unnecessarySimpa false
open Go.RowKit

set_option maxHeartbeats 400000 in
theorem cloneEvs_any (P : Nat → Prop) (A : Option Addr) (n c : Nat) (l : List Ev) (w : World) (hb : Reads w P 10 A n (ecs l)) (hP : ∀ i, P i → i < w.heap.size) (hn : n ≤ 1099511627000) (hA : A = none → n = 0 ∧ c = 0) :
    Calls Try.prog 63 #[.slice A n c] w fun e w' => ∃ v, e = .returned v ∧ w'.ownsRow w.heap.size 37 10 v n (ecs l) ∧ Below w.heap.size w w' := by
  rcases A with _ | ad
  · obtain ⟨rfl, rfl⟩ := hA rfl
    have hl : l = [] := by
      have := hb.1
      rw [ecs_length] at this
      exact List.eq_nil_of_length_eq_zero (by omega)
    subst hl
    have hnil := fun W (n c : Nat) => Lib.run_eql_slice_nil (P := Try.prog) W 52 37 none n c 0 0 Try.underlying52
    go_enter Try.func63, Try.ntmps63
    go_wp2
    go_ret
    exact ⟨_, rfl, World.ownsRow_nil _ _ _ _, Below.refl _ _⟩
  · have hnil := fun W (n c : Nat) => Lib.run_eql_slice_nil (P := Try.prog) W 52 37 (some ad) n c 0 0 Try.underlying52
    have hown : (w.alloc (.cells #[] 37)).ownsRow w.heap.size 37 10 (.slice (some ⟨w.heap.size, 0, none⟩) 0 0) 0 [] := World.ownsRow_made w #[] 0 (Nat.le_refl _) (by decide) rfl
    have hB : Below w.heap.size w (w.alloc (.cells #[] 37)) := (Below.refl _ _).alloc (Nat.le_refl _) _
    have hr : Reads (w.alloc (.cells #[] 37)) P 10 (some ad) n (ecs l) := Reads.keep hb fun i hi => hB.block i (hP i hi)
    go_enter Try.func63, Try.ntmps63
    go_wp2_with (at_builtin; (refine wpList_appN _ rfl _ _ 52 rfl w.heap.size 37 (.agg #[.int .i64 0, .int .i64 0, .int .i64 0, .slice none 0 0, .int .i64 0, .int .i64 0, .int .i64 0, .int .i64 0, .int .i64 0, .int .i64 0]) 10 96 Try.underlying52 infoEv rfl (by decide) _ 0 _ hown rfl P _ n c _ hr rfl (ecs_one l) (by omega) (by omega) (by simp) ?_); intro v1 w1 hown1 _ hb1 _)
    have R : w1.ownsRow w.heap.size 37 10 v1 n (ecs l) := by
      rw [Nat.zero_add, List.nil_append] at hown1; exact hown1
    have hB1 := hB.trans hb1
    clear hown1 hb1 hB hr hown
    go_wp2
    go_ret
    exact ⟨_, rfl, R, hB1⟩

/-- One cell of a row of the call's own is written. -/
theorem own_setv {w : World} {base g n cap k size : Nat} {e : TypeId} {xs : List Value} (h : w.ownsRow base e size (.slice (some ⟨g, 0, none⟩) n cap) n xs) (u : Value) :
    (w.setCell ⟨g, k, none⟩ u).ownsRow base e size (.slice (some ⟨g, 0, none⟩) n cap) n (xs.set k u) := by
  obtain ⟨h1, h2⟩ := h
  refine ⟨by rw [List.length_set]; exact h1, ?_⟩
  rcases h2 with ⟨h2, _⟩ | ⟨g', cap', cur, hv, hb, hg, hn, hm, hs, ht⟩
  · cases h2
  · injection hv with e1 _ e2
    injection e1 with e1
    injection e1 with e1
    subst e1 e2
    refine .inr ⟨g, cap, cur.setIfInBounds k u, rfl, hb, ?_, hn, hm, by simpa using hs, ?_⟩
    · simp only [World.setCell, Array.getElem?_modify, hg]
      simp
    · rw [← ht]
      simp [List.take_set]
theorem own_at {w : World} {base : Nat} {e : TypeId} {size : Nat} {v : Value} {n : Nat} {xs : List Value} (h : w.ownsRow base e size v n xs) (h0 : 0 < n) :
    ∃ g c, v = .slice (some ⟨g, 0, none⟩) n c ∧ n ≤ c ∧ c ≤ 9223372036854775807 ∧ base ≤ g ∧ g < w.heap.size := by
  rcases h.2 with ⟨_, h2⟩ | ⟨g, cap, cur, hv, hb, hg, hn, hm, _⟩
  · omega
  · exact ⟨g, cap, hv, hn, by unfold maxLen at hm; exact hm, hb, (Array.getElem?_eq_some_iff.1 hg).1⟩
theorem own_froz {w : World} {base g n cap : Nat} {e : TypeId} {size m : Nat} {xs : List Value} (h : w.ownsRow base e size (.slice (some ⟨g, 0, none⟩) n cap) m xs) (i : Nat) : w.frozen? ⟨g, i, none⟩ = false := by
  rcases h.2 with ⟨h2, _⟩ | ⟨g', cap', cur, hv, hb, hg, _⟩
  · cases h2
  · injection hv with e1 _ e2
    injection e1 with e1
    injection e1 with e1
    subst e1 e2
    simp [World.frozen?, hg]
/-- An event whose Deps lie elsewhere. -/
def moved (r : Ev) (A : Option Addr) (c : Nat) : Ev := { r with A := A, c := c }
theorem ecs_set (l : List Ev) (k : Nat) (r : Ev) (h : l[k]? = some r) (A : Option Addr) (c : Nat) : (ecs l).set (k * 10 + 3) (.slice A r.n c) = ecs (l.set k (moved r A c)) := by
  induction l generalizing k with
  | nil => simp at h
  | cons a l ih =>
    rcases k with _ | k
    · simp at h; subst h
      rfl
    · rw [List.set_cons_succ, ecs_cons, ecs_cons, ← ih k (by simpa using h), List.set_append_right _ _ (by rw [ec_length]; omega), ec_length, show (k + 1) * 10 + 3 - 10 = k * 10 + 3 from by omega]
theorem ekey_moved (r : Ev) (A : Option Addr) (c : Nat) : ekey (moved r A c) = ekey r := rfl

/-- A message: its words, where its Vec and its Events lie, these. -/
structure Mg where
  kind : Int
  from_ : Int
  to_ : Int
  VA : Option Addr
  vn : Nat
  vc : Nat
  vec : List Int
  EA : Option Addr
  en : Nat
  ecap : Nat
  evs : List Ev
def mc (m : Mg) : List Value := [.int .i64 m.kind, .int .i64 m.from_, .int .i64 m.to_, .slice m.VA m.vn m.vc, .slice m.EA m.en m.ecap]
def mkey (m : Mg) := (m.kind, m.from_, m.to_, m.vec, m.evs.map ekey)
/-- A message's Vec and Events read as it says. -/
def MgR (w : World) (P : Nat → Prop) (m : Mg) : Prop := RN w P m.VA m.vn m.vec ∧ (m.vn ≤ m.vc ∧ m.vc ≤ 9223372036854775807 ∧ (m.VA = none → m.vc = 0)) ∧ RE w P m.EA m.en m.evs ∧ m.en ≤ m.ecap ∧ m.ecap ≤ 9223372036854775807 ∧ (m.EA = none → m.ecap = 0)
theorem MgR.keep {w w' : World} {P : Nat → Prop} {m : Mg} (h : MgR w P m) (hk : Same P w w') : MgR w' P m := ⟨h.1.keep hk, h.2.1, h.2.2.1.keep hk, h.2.2.2⟩
theorem MgR.more {w : World} {P Q : Nat → Prop} {m : Mg} (h : MgR w P m) (hQ : ∀ i, P i → Q i) : MgR w Q m := ⟨h.1.more hQ, h.2.1, h.2.2.1.more hQ, h.2.2.2⟩
/-- No list of it is too long to be copied. -/
def Fits (m : Mg) : Prop := m.vn ≤ 1099511627000 ∧ m.en ≤ 1099511627000 ∧ ∀ e ∈ m.evs, e.n ≤ 1099511627000
end Go.Proofs.Ytcidmlpjobdakaa
