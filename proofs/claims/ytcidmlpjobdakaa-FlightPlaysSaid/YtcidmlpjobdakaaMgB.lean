/- SameMsg; lists of messages; a flight; New, Len, Look. -/
import Derived.Test.YtcidmlpjobdakaaMgA
namespace Go.Proofs.Ytcidmlpjobdakaa
set_option linter.unusedSimpArgs false
set_option linter.unusedVariables false
set_option linter.unnecessarySimpa false
open Go.RowKit

set_option maxHeartbeats 800000 in
theorem sameMsg_yes (P Q : Nat → Prop) (m f : Mg) (w : World) (hm : MgR w P m) (hf : MgR w Q f) (hk : mkey m = mkey f) (hP : ∀ i, P i → i < w.heap.size) (hQ : ∀ i, Q i → i < w.heap.size) :
    Calls Try.prog 34 #[.agg (mc m).toArray, .agg (mc f).toArray] w fun r w' => r = .returned (.bool true) ∧ Below w.heap.size w w' := by
  obtain ⟨kind, from_, to_, VA, vn, vc, vec, EA, en, ecap, evs⟩ := m
  obtain ⟨kind', from_', to_', VA', vn', vc', vec', EA', en', ecap', evs'⟩ := f
  simp only [mkey, Prod.mk.injEq] at hk
  obtain ⟨rfl, rfl, rfl, rfl, hkeys⟩ := hk
  have hv1 : RN w P VA vn vec := hm.1
  have hv2 : RN w Q VA' vn' vec := hf.1
  have he1 : RE w P EA en evs := hm.2.2.1
  have he2 : RE w Q EA' en' evs' := hf.2.2.1
  have hvn : vn ≤ 9223372036854775807 := Nat.le_trans hm.2.1.1 hm.2.1.2.1
  have hen : en ≤ 9223372036854775807 := Nat.le_trans hm.2.2.2.1 hm.2.2.2.2.1
  have hll : en' = en := by
    have := congrArg List.length hkeys
    simp only [List.length_map] at this
    rw [he1.len, he2.len] at this
    exact this.symm
  subst hll
  obtain ⟨W2, hW2⟩ : ∃ W2, W2 = (w.alloc (.cells #[.int .i64 kind, .int .i64 from_, .int .i64 to_, .slice VA vn vc, .slice EA en' ecap] 54)).alloc (.cells #[.int .i64 kind, .int .i64 from_, .int .i64 to_, .slice VA' vn' vc', .slice EA' en' ecap'] 54) := ⟨_, rfl⟩
  have k2 : Below w.heap.size w W2 := by rw [hW2]; exact ((Below.refl _ _).alloc (Nat.le_refl _) _).alloc (by simp) _
  have z2 : W2.heap.size = w.heap.size + 2 := by rw [hW2]; simp
  have p0 : W2.cell? ⟨w.heap.size, 4, none⟩ = some (.slice EA en' ecap) := by rw [hW2, World.cell?_alloc_past _ _ _ (by simp), World.cell?_alloc_at _ _ _ _ rfl]; rfl
  have p1 : W2.cell? ⟨w.heap.size + 1, 4, none⟩ = some (.slice EA' en' ecap') := by rw [hW2, World.cell?_alloc_at _ _ _ _ (by simp)]; rfl
  have r1 : RN W2 P VA vn vec := hv1.keep fun i hi => k2.block i (hP i hi)
  have r2 : RN W2 Q VA' vn' vec := hv2.keep fun i hi => k2.block i (hQ i hi)
  go_enter Try.func34, Try.ntmps34
  simp only [mc]
  go_wp2_with fail
  rw [← hW2]
  clear hW2
  refine (sameInts_yes _ _ VA vn vc vec VA' vn' vc' W2 r1 r2 hvn).mono ?_
  rintro e w3 ⟨rfl, q, rfl⟩
  have k3 := below_drewN k2 q
  have p0 : (W2.drewN q).cell? ⟨w.heap.size, 4, none⟩ = some (.slice EA en' ecap) := p0
  have p1 : (W2.drewN q).cell? ⟨w.heap.size + 1, 4, none⟩ = some (.slice EA' en' ecap') := p1
  clear r1 r2 k2
  generalize W2.drewN q = w3 at *
  go_wp2_with fail
  refine (sameEvents_yes P Q EA en' ecap evs EA' ecap' evs' w3 (he1.keep fun i hi => k3.block i (hP i hi)) (he2.keep fun i hi => k3.block i (hQ i hi)) hkeys (fun i hi => Nat.lt_of_lt_of_le (hP i hi) k3.size) (fun i hi => Nat.lt_of_lt_of_le (hQ i hi) k3.size) hen).mono ?_
  rintro e w4 ⟨rfl, b4⟩
  have k4 := next_below k3 b4
  go_wp2
  go_ret
  exact ⟨rfl, k4⟩

def mcs (l : List Mg) : List Value := l.flatMap mc
theorem mcs_append (a b : List Mg) : mcs (a ++ b) = mcs a ++ mcs b := by simp [mcs]
theorem mcs_cons (r : Mg) (l : List Mg) : mcs (r :: l) = mc r ++ mcs l := by simp only [mcs, List.flatMap_cons]
theorem mc_length (e : Mg) : (mc e).length = 5 := rfl
theorem mcs_length (l : List Mg) : (mcs l).length = l.length * 5 := by
  induction l with
  | nil => rfl
  | cons r l ih => rw [mcs_cons, List.length_append, ih, mc_length]; simp; omega
theorem mcs_get (l : List Mg) (k j : Nat) (r : Mg) (h : l[k]? = some r) (hj : j < 5) : (mcs l)[k * 5 + j]? = (mc r)[j]? := by
  induction l generalizing k with
  | nil => simp at h
  | cons a l ih =>
    rw [mcs_cons]
    rcases k with _ | k
    · simp at h; subst h
      rw [List.getElem?_append_left (by rw [mc_length]; omega)]; simp
    · rw [List.getElem?_append_right (by rw [mc_length]; omega), show (k + 1) * 5 + j - (mc a).length = k * 5 + j from by rw [mc_length]; omega]
      exact ih k (by simpa using h)
theorem mcs_take (l : List Mg) (k : Nat) : (mcs l).take (k * 5) = mcs (l.take k) := by
  induction l generalizing k with
  | nil => simp [mcs]
  | cons a l ih =>
    rcases k with _ | k
    · simp [mcs]
    · rw [mcs_cons, List.take_succ_cons, mcs_cons, List.take_append, List.take_of_length_le (by rw [mc_length]; omega), mc_length, show (k + 1) * 5 - 5 = k * 5 from by omega, ih]
theorem mcs_drop (l : List Mg) (k : Nat) : (mcs l).drop (k * 5) = mcs (l.drop k) := by
  induction l generalizing k with
  | nil => simp [mcs]
  | cons a l ih =>
    rcases k with _ | k
    · simp [mcs]
    · rw [mcs_cons, List.drop_succ_cons, List.drop_append, List.drop_of_length_le (by rw [mc_length]; omega), mc_length, show (k + 1) * 5 - 5 = k * 5 from by omega, ih]; rfl
theorem mcs_one (l : List Mg) : ∀ u ∈ mcs l, u.oneCell' = true := by
  intro u hu
  simp only [mcs, List.mem_flatMap] at hu
  obtain ⟨r, _, hr⟩ := hu
  simp [mc] at hr
  rcases hr with rfl | rfl | rfl | rfl | rfl <;> rfl
theorem infoMsg : (Try.prog.info? 54).map (fun i => (i.zero, i.size, i.bytes)) = some (some (.agg #[.int .i64 0, .int .i64 0, .int .i64 0, .slice none 0 0, .slice none 0 0]), 5, 72) := by kernel_rfl
/-- Memory outside of S is as it was. -/
def Off (S : Nat → Prop) (w w' : World) : Prop := Below 0 w w' ∧ ∀ i, i < w.heap.size → ¬ S i → w'.heap[i]? = w.heap[i]?
/-- S and what came into memory meanwhile. -/
def Grow (S : Nat → Prop) (w w' : World) : Nat → Prop := fun i => S i ∨ (w.heap.size ≤ i ∧ i < w'.heap.size)
theorem Off.refl (S : Nat → Prop) (w : World) : Off S w w := ⟨Below.refl _ _, fun _ _ _ => rfl⟩
theorem Off.of {S : Nat → Prop} {w w' : World} (h : Below w.heap.size w w') : Off S w w' := ⟨h.mono (Nat.zero_le _), fun i hi _ => h.block i hi⟩
theorem Off.size {S : Nat → Prop} {w w' : World} (h : Off S w w') : w.heap.size ≤ w'.heap.size := h.1.size
theorem Off.trans {S : Nat → Prop} {w w1 w2 : World} (h : Off S w w1) (k : Off (Grow S w w1) w1 w2) : Off S w w2 :=
  ⟨h.1.trans k.1, fun i hi hs => (k.2 i (Nat.lt_of_lt_of_le hi h.1.size) (fun e => by rcases e with e | e; exact hs e; omega)).trans (h.2 i hi hs)⟩
theorem Off.below {S : Nat → Prop} {B : Nat} {w w' : World} (h : Off S w w') (hS : ∀ i, S i → B ≤ i) (hB : B ≤ w.heap.size) : Below B w w' :=
  ⟨h.1.os, h.1.tape, h.1.output, h.1.size, fun k hk => h.2 k (Nat.lt_of_lt_of_le hk hB) (fun e => by have := hS k e; omega)⟩
theorem Off.more {S T : Nat → Prop} {w w' : World} (h : Off S w w') (hT : ∀ i, S i → T i) : Off T w w' := ⟨h.1, fun i hi ht => h.2 i hi fun e => ht (hT i e)⟩
theorem Grow.trans {S : Nat → Prop} {w w1 w2 : World} (h1 : w.heap.size ≤ w1.heap.size) (h2 : w1.heap.size ≤ w2.heap.size) (i : Nat) (h : Grow (Grow S w w1) w1 w2 i) : Grow S w w2 i := by
  rcases h with (h | h) | h
  · exact .inl h
  · exact .inr ⟨h.1, by omega⟩
  · exact .inr ⟨by omega, h.2⟩
theorem Grow.from {S : Nat → Prop} {w w' : World} {B : Nat} (hS : ∀ i, S i → B ≤ i) (hB : B ≤ w.heap.size) (i : Nat) (h : Grow S w w' i) : B ≤ i := by
  rcases h with h | h
  · exact hS i h
  · omega
/-- A flight at block g holds these messages in the blocks of S: its list is a row of its own, apart from the block and from what the messages hold. -/
structure Fli (w : World) (S : Nat → Prop) (g : Nat) (ms : List Mg) : Prop where
  list : ∃ v, w.cell? ⟨g, 0, none⟩ = some v ∧ w.ownsRow 0 54 5 v ms.length (mcs ms) ∧ (∀ i, v.ownBlock = some i → S i ∧ i ≠ g) ∧ ∀ m ∈ ms, MgR w (fun i => S i ∧ i ≠ g ∧ some i ≠ v.ownBlock) m ∧ Fits m
  fresh : S g ∧ g < w.heap.size ∧ w.frozen? ⟨g, 0, none⟩ = false
  inw : ∀ i, S i → i < w.heap.size
theorem Fli.keep {w w' : World} {S : Nat → Prop} {g : Nat} {ms : List Mg} (h : Fli w S g ms) (hs : w.heap.size ≤ w'.heap.size) (hh : ∀ i, S i → w'.heap[i]? = w.heap[i]?) : Fli w' S g ms := by
  obtain ⟨⟨v, hc, ho, hv, hm⟩, ⟨h1, h2, h3⟩, h4⟩ := h
  refine ⟨⟨v, (World.cell?_of_block (hh g h1)).trans hc, ⟨ho.1, ?_⟩, hv, fun m hmem => ⟨(hm m hmem).1.keep fun i hi => hh i hi.1, (hm m hmem).2⟩⟩, ⟨h1, Nat.lt_of_lt_of_le h2 hs, (World.frozen?_of_block (hh g h1)).trans h3⟩, fun i hi => Nat.lt_of_lt_of_le (h4 i hi) hs⟩
  rcases ho.2 with h5 | ⟨b, cap, cur, e, hb, hb2, r⟩
  · exact .inl h5
  · exact .inr ⟨b, cap, cur, e, hb, (hh b (hv b (by rw [e]; rfl)).1).trans hb2, r⟩
theorem Fli.below {w w' : World} {S : Nat → Prop} {g : Nat} {ms : List Mg} (h : Fli w S g ms) (hb : Below w.heap.size w w') : Fli w' S g ms := h.keep hb.size fun i hi => hb.block i (h.inw i hi)
theorem Fli.more {w : World} {S T : Nat → Prop} {g : Nat} {ms : List Mg} (h : Fli w S g ms) (hT : ∀ i, S i → T i) (hTw : ∀ i, T i → i < w.heap.size) : Fli w T g ms := by
  obtain ⟨⟨v, hc, ho, hv, hm⟩, ⟨h1, h2, h3⟩, h4⟩ := h
  exact ⟨⟨v, hc, ho, fun i hi => ⟨hT i (hv i hi).1, (hv i hi).2⟩, fun m hmem => ⟨(hm m hmem).1.more fun i hi => ⟨hT i hi.1, hi.2⟩, (hm m hmem).2⟩⟩, ⟨hT g h1, h2, h3⟩, hTw⟩

set_option maxHeartbeats 400000 in
theorem new_any (w : World) : Calls Try.prog 27 #[] w fun r w' => r = .returned (.pointer (some ⟨w.heap.size, 0, none⟩)) ∧ Fli w' (fun i => i = w.heap.size) w.heap.size [] ∧ Below w.heap.size w w' := by
  go_enter Try.func27, Try.ntmps27
  go_wp2
  go_ret
  refine ⟨rfl, ⟨⟨.slice none 0 0, World.cell?_alloc_at _ _ _ _ rfl, World.ownsRow_nil _ _ _ _, (fun i e => by cases e), fun m hm => (by cases hm)⟩, ⟨rfl, by simp, World.frozen?_alloc_at _ _ _ _ rfl⟩, fun i hi => by simp at hi ⊢; omega⟩, (Below.refl _ _).alloc (Nat.le_refl _) _⟩

set_option maxHeartbeats 400000 in
theorem len_any (w : World) (S : Nat → Prop) (g : Nat) (ms : List Mg) (h : Fli w S g ms) : Calls Try.prog 30 #[.pointer (some ⟨g, 0, none⟩)] w fun r w' => r = .returned (.int .i64 ms.length) ∧ w' = w := by
  obtain ⟨⟨v, hc, ho, hv, hm⟩, _⟩ := h
  obtain ⟨A, c, rfl, _⟩ := own_form ho
  go_enter Try.func30, Try.ntmps30
  go_wp2
  go_ret
  exact ⟨rfl, rfl⟩
end Go.Proofs.Ytcidmlpjobdakaa
