/- Events and lists of events, as they lie in memory; CopyInts' and Clone's kin; SameEvent, SameEvents, CopyEvent, CopyEvents. -/
import Derived.Test.YtcidmlpjobdakaaEvA
namespace Go.Proofs.Ytcidmlpjobdakaa
set_option linter.unusedSimpArgs false
set_option linter.unusedVariables false
set_option linter.unnecessarySimpa false
open Go.RowKit

/-- An event: its words, where its Deps lie, the Deps. -/
structure Ev where
  a0 : Int
  a1 : Int
  a2 : Int
  A : Option Addr
  n : Nat
  c : Nat
  deps : List Int
  b0 : Int
  b1 : Int
  b2 : Int
  b3 : Int
  b4 : Int
  b5 : Int
def ec (e : Ev) : List Value := [.int .i64 e.a0, .int .i64 e.a1, .int .i64 e.a2, .slice e.A e.n e.c, .int .i64 e.b0, .int .i64 e.b1, .int .i64 e.b2, .int .i64 e.b3, .int .i64 e.b4, .int .i64 e.b5]
def ecs (l : List Ev) : List Value := l.flatMap ec
/-- What an event says, wherever it lies. -/
def ekey (e : Ev) : (Int × Int × Int) × List Int × (Int × Int × Int × Int × Int × Int) := ((e.a0, e.a1, e.a2), e.deps, (e.b0, e.b1, e.b2, e.b3, e.b4, e.b5))
theorem ecs_append (a b : List Ev) : ecs (a ++ b) = ecs a ++ ecs b := by simp [ecs]
theorem ecs_cons (r : Ev) (l : List Ev) : ecs (r :: l) = ec r ++ ecs l := by simp only [ecs, List.flatMap_cons]
theorem ec_length (e : Ev) : (ec e).length = 10 := rfl
theorem ecs_length (l : List Ev) : (ecs l).length = l.length * 10 := by
  induction l with
  | nil => rfl
  | cons r l ih => rw [ecs_cons, List.length_append, ih, ec_length]; simp; omega
theorem ecs_get (l : List Ev) (k j : Nat) (r : Ev) (h : l[k]? = some r) (hj : j < 10) : (ecs l)[k * 10 + j]? = (ec r)[j]? := by
  induction l generalizing k with
  | nil => simp at h
  | cons a l ih =>
    rw [ecs_cons]
    rcases k with _ | k
    · simp at h; subst h
      rw [List.getElem?_append_left (by rw [ec_length]; omega)]; simp
    · rw [List.getElem?_append_right (by rw [ec_length]; omega), show (k + 1) * 10 + j - (ec a).length = k * 10 + j from by rw [ec_length]; omega]
      exact ih k (by simpa using h)
theorem ecs_one (l : List Ev) : ∀ u ∈ ecs l, u.oneCell' = true := by
  intro u hu
  simp only [ecs, List.mem_flatMap] at hu
  obtain ⟨r, _, hr⟩ := hu
  simp [ec] at hr
  rcases hr with rfl | rfl | rfl | rfl | rfl | rfl | rfl | rfl | rfl | rfl <;> rfl
theorem infoEv : (Try.prog.info? 37).map (fun i => (i.zero, i.size, i.bytes)) = some (some (.agg #[.int .i64 0, .int .i64 0, .int .i64 0, .slice none 0 0, .int .i64 0, .int .i64 0, .int .i64 0, .int .i64 0, .int .i64 0, .int .i64 0]), 10, 96) := by kernel_rfl
/-- An event's Deps read as it says. -/
def EvR (w : World) (P : Nat → Prop) (e : Ev) : Prop := RN w P e.A e.n e.deps ∧ e.n ≤ e.c ∧ e.c ≤ 9223372036854775807 ∧ (e.A = none → e.c = 0)
/-- A slice reads as events, with their Deps. -/
def RE (w : World) (P : Nat → Prop) (A : Option Addr) (n : Nat) (l : List Ev) : Prop := Reads w P 10 A n (ecs l) ∧ ∀ e ∈ l, EvR w P e
section
variable {w w' : World} {P Q : Nat → Prop} {n : Nat} {A : Option Addr} {l : List Ev} {e : Ev}
theorem EvR.keep (h : EvR w P e) (hk : Same P w w') : EvR w' P e := ⟨h.1.keep hk, h.2⟩
theorem EvR.more (h : EvR w P e) (hQ : ∀ i, P i → Q i) : EvR w Q e := ⟨h.1.more hQ, h.2⟩
theorem RE.len (h : RE w P A n l) : l.length = n := by have := h.1.1; rw [ecs_length] at this; omega
theorem RE.keep (h : RE w P A n l) (hk : Same P w w') : RE w' P A n l := ⟨Reads.keep h.1 hk, fun e he => (h.2 e he).keep hk⟩
theorem RE.more (h : RE w P A n l) (hQ : ∀ i, P i → Q i) : RE w Q A n l := ⟨Reads.more h.1 hQ, fun e he => (h.2 e he).more hQ⟩
theorem RE.below {B : Nat} (h : RE w (· < B) A n l) (hb : Below B w w') : RE w' (· < B) A n l := h.keep fun i hi => hb.block i hi
theorem RE.dn (h : RE w P A n l) (q : Nat) : RE (w.drewN q) P A n l := h
theorem RE.nil (w : World) (P : Nat → Prop) (A : Option Addr) : RE w P A 0 [] := ⟨Reads.zero, fun e h => by cases h⟩
theorem RE.cell (h : RE w P A n l) {k : Nat} (hk : k < n) : ∃ b off r, A = some ⟨b, off, none⟩ ∧ P b ∧ l[k]? = some r ∧ EvR w P r ∧
    ∀ j u, (ec r)[j]? = some u → w.cell? ⟨b, off + k * 10 + j, none⟩ = some u := by
  obtain ⟨b, off, e, hb, hc⟩ := h.1.2 (by omega)
  have hl : k < l.length := by rw [h.len]; exact hk
  have hg := List.getElem?_eq_getElem hl
  refine ⟨b, off, l[k], e, hb, hg, h.2 _ (List.getElem_mem hl), fun j u hu => ?_⟩
  have hj : j < 10 := by
    have := (List.getElem?_eq_some_iff.1 hu).1
    rwa [ec_length] at this
  have := hc (k * 10 + j) u (by rw [ecs_get l k j _ hg hj]; exact hu)
  rwa [← Nat.add_assoc] at this
end

theorem equalId (x y : Int) (w : World) : (Op.equalIn 10000 35 (.agg #[.int .i64 x, .int .i64 y]) (.agg #[.int .i64 x, .int .i64 y])).run Try.prog w = .ok true w := by
  have u3 := Try.underlying3
  have a3 := Try.isAgg3
  have z3 := Try.sizeOf3
  have hS : Try.prog.underlying 35 = some (.struct (Try.prog.fieldsOf 35)) := by kernel_rfl
  have hp : Try.prog.stoodInHeld 35 = false := by kernel_rfl
  rw [show (10000 : Nat) = 9999 + 1 from rfl, run_equalIn_agg w 9999 35 _ _ hS hp]
  simp only [Program.fieldsOf, Try.underlying35]
  go_simp
theorem sameInts_yes (P Q : Nat → Prop) (A : Option Addr) (n c : Nat) (xs : List Int) (B : Option Addr) (m d : Nat) (w : World) (ha : RN w P A n xs) (hb : RN w Q B m xs) (hn : n ≤ 9223372036854775807) :
    Calls Try.prog 53 #[.slice A n c, .slice B m d] w fun e w' => e = .returned (.bool true) ∧ ∃ q, w' = w.drewN q :=
  (sameInts_any P Q A n c xs B m d xs w ha hb hn).mono fun _ _ ⟨h, q, h2⟩ => ⟨by rw [h]; simp, q, h2⟩

set_option maxHeartbeats 800000 in
theorem sameEvent_yes (P Q : Nat → Prop) (e f : Ev) (w : World) (he : EvR w P e) (hf : EvR w Q f) (hk : ekey e = ekey f) (hP : ∀ i, P i → i < w.heap.size) (hQ : ∀ i, Q i → i < w.heap.size) :
    Calls Try.prog 44 #[.agg (ec e).toArray, .agg (ec f).toArray] w fun r w' => r = .returned (.bool true) ∧ Below w.heap.size w w' := by
  obtain ⟨a0, a1, a2, A, n, c, ds, b0, b1, b2, b3, b4, b5⟩ := e
  obtain ⟨a0', a1', a2', A', n', c', ds', b0', b1', b2', b3', b4', b5'⟩ := f
  simp only [ekey, Prod.mk.injEq] at hk
  obtain ⟨⟨rfl, rfl, rfl⟩, rfl, rfl, rfl, rfl, rfl, rfl, rfl⟩ := hk
  have hid := fun W => equalId a0 a1 W
  obtain ⟨W2, hW2⟩ : ∃ W2, W2 = (w.alloc (.cells (ec ⟨a0, a1, a2, A, n, c, ds, b0, b1, b2, b3, b4, b5⟩).toArray 37)).alloc (.cells (ec ⟨a0, a1, a2, A', n', c', ds, b0, b1, b2, b3, b4, b5⟩).toArray 37) := ⟨_, rfl⟩
  have k2 : Below w.heap.size w W2 := by rw [hW2]; exact ((Below.refl _ _).alloc (Nat.le_refl _) _).alloc (by simp) _
  have r1 : RN W2 P A n ds := he.1.keep fun i hi => k2.block i (hP i hi)
  have r2 : RN W2 Q A' n' ds := hf.1.keep fun i hi => k2.block i (hQ i hi)
  have hnn : n ≤ 9223372036854775807 := Nat.le_trans he.2.1 he.2.2.1
  go_enter Try.func44, Try.ntmps44
  subst hW2
  simp only [ec] at r1 r2 k2 ⊢
  go_wp2_with fail
  refine (sameInts_yes _ _ A n c ds A' n' c' _ r1 r2 hnn).mono ?_
  rintro e w3 ⟨rfl, q, rfl⟩
  have k3 := below_drewN k2 q
  clear r1 r2 k2
  go_wp2
  go_ret
  exact ⟨rfl, k3⟩
end Go.Proofs.Ytcidmlpjobdakaa
