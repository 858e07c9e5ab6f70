/- What both flights answer, set side by side. -/
import Derived.Test.YtcidmlpjobdakaaFpC
namespace Go.Proofs.Ytcidmlpjobdakaa
set_option linter.unusedSimpArgs false
set_option linter.unusedVariables false
set_option linter.unnecessarySimpa false
open Go.RowKit

theorem Fli.off {w w' : World} {S T : Nat → Prop} {g : Nat} {ms : List Mg} (h : Fli w S g ms) (ho : Off T w w') (hd : ∀ i, S i → ¬ T i) : Fli w' S g ms := h.keep ho.size fun i hi => ho.2 i (h.inw i hi) (hd i hi)
/-- What is at a place: a message and 'true', or none and 'false'. -/
def At (ms : List Mg) (z : Int) (β : Bool) (x : Mg) : Prop := (∃ (k : Nat) (m : Mg), z = (k : Int) ∧ ms[k]? = some m ∧ β = true ∧ mkey x = mkey m) ∨ ((z < 0 ∨ (ms.length : Int) ≤ z) ∧ β = false ∧ mkey x = mkey zeroMg)
theorem mkeys_at {xs ys : List Mg} (h : xs.map mkey = ys.map mkey) {k : Nat} {r s : Mg} (hr : xs[k]? = some r) (hs : ys[k]? = some s) : mkey r = mkey s := by
  have := congrArg (fun l => l[k]?) h
  simp only [List.getElem?_map, hr, hs, Option.map_some] at this
  exact Option.some.inj this
theorem mlen {xs ys : List Mg} (h : xs.map mkey = ys.map mkey) : xs.length = ys.length := by simpa using congrArg List.length h
theorem At.same {l l' : List Mg} {z : Int} {β γ : Bool} {x y : Mg} (hk : l.map mkey = l'.map mkey) (h : At l z β x) (h' : At l' z γ y) : β = γ ∧ mkey x = mkey y := by
  have hl := mlen hk
  rcases h with ⟨k, m, rfl, h1, rfl, h2⟩ | ⟨h0, rfl, h2⟩
  · have hkl := (List.getElem?_eq_some_iff.1 h1).1
    rcases h' with ⟨k', m', e, h3, rfl, h4⟩ | ⟨h0', _, _⟩
    · obtain rfl : k = k' := by omega
      exact ⟨rfl, by rw [h2, h4]; exact mkeys_at hk h1 h3⟩
    · omega
  · rcases h' with ⟨k', m', e, h3, _, _⟩ | ⟨_, rfl, h4⟩
    · have := (List.getElem?_eq_some_iff.1 h3).1
      omega
    · exact ⟨rfl, by rw [h2, h4]⟩
/-- What is left when the message at a place is taken. -/
def taken (ms : List Mg) (z : Int) : List Mg := if 0 ≤ z ∧ z < ms.length then ms.eraseIdx z.toNat else ms
theorem taken_in (ms : List Mg) (k : Nat) (m : Mg) (h : ms[k]? = some m) : taken ms (k : Int) = ms.eraseIdx k := by
  have := (List.getElem?_eq_some_iff.1 h).1
  unfold taken
  rw [if_pos (by omega), Int.toNat_natCast]
theorem taken_out (ms : List Mg) (z : Int) (h : z < 0 ∨ (ms.length : Int) ≤ z) : taken ms z = ms := by
  unfold taken
  rw [if_neg (by omega)]
theorem taken_same {l l' : List Mg} (hk : l.map mkey = l'.map mkey) (z : Int) : (taken l z).map mkey = (taken l' z).map mkey := by
  have hl := mlen hk
  unfold taken
  by_cases h : 0 ≤ z ∧ z < l.length
  · rw [if_pos h, if_pos (by omega), List.eraseIdx_eq_take_drop_succ, List.eraseIdx_eq_take_drop_succ, List.map_append, List.map_append, List.map_take, List.map_take, List.map_drop, List.map_drop, hk]
  · rw [if_neg h, if_neg (by omega), hk]
theorem taken_len (l : List Mg) (z : Int) : (taken l z).length ≤ l.length := by
  unfold taken
  split
  · rw [List.length_eraseIdx]; split <;> omega
  · exact Nat.le_refl _
theorem at_cases (ms : List Mg) (z : Int) : (∃ (k : Nat) (m : Mg), z = (k : Int) ∧ ms[k]? = some m) ∨ (z < 0 ∨ (ms.length : Int) ≤ z) := by
  by_cases h : z < 0 ∨ (ms.length : Int) ≤ z
  · exact .inr h
  · obtain ⟨k, hk⟩ : ∃ k : Nat, z = (k : Int) := ⟨z.toNat, by omega⟩
    have hkl : k < ms.length := by omega
    exact .inl ⟨k, ms[k], hk, List.getElem?_eq_getElem hkl⟩
theorem zeroMg_in (w : World) (n₀ M : Nat) : MgIn w n₀ M zeroMg := ⟨RN.nil _ _ _, Reads.zero, fun e h => (by cases h), ⟨⟨Nat.le_refl _, by decide, fun _ => rfl⟩, Nat.le_refl _, by decide, fun _ => rfl⟩, zeroMg_fits⟩
theorem look_at (w : World) (S : Nat → Prop) (g : Nat) (ms : List Mg) (h : Fli w S g ms) (z : Int) :
    Calls Try.prog 32 #[.pointer (some ⟨g, 0, none⟩), .int .i64 z] w fun r w' => ∃ x β, r = .returned (.tuple #[.agg (mc x).toArray, .bool β]) ∧ At ms z β x ∧ MgIn w' w.heap.size w'.heap.size x ∧ Below w.heap.size w w' := by
  rcases at_cases ms z with ⟨k, m, rfl, hk⟩ | hz
  · exact (look_new w S g ms h k m hk).mono fun r w' ⟨m', h1, h2, h3, h4⟩ => ⟨m', true, h1, .inl ⟨k, m, rfl, hk, rfl, h2⟩, h3, h4⟩
  · exact (look_out w S g ms h z hz).mono fun r w' ⟨h1, h2⟩ => ⟨zeroMg, false, h1, .inr ⟨hz, rfl, rfl⟩, zeroMg_in _ _ _, h2⟩
theorem refLook_at (w : World) (S : Nat → Prop) (g : Nat) (ms : List Mg) (h : Fli w S g ms) (z : Int) :
    Calls Try.prog 33 #[.pointer (some ⟨g, 0, none⟩), .int .i64 z] w fun r w' => ∃ x β, r = .returned (.tuple #[.agg (mc x).toArray, .bool β]) ∧ At ms z β x ∧ MgIn w' w.heap.size w'.heap.size x ∧ Below w.heap.size w w' := by
  rcases at_cases ms z with ⟨k, m, rfl, hk⟩ | hz
  · exact (refLook_new w S g ms h k m hk).mono fun r w' ⟨m', h1, h2, h3, h4⟩ => ⟨m', true, h1, .inl ⟨k, m, rfl, hk, rfl, h2⟩, h3, h4⟩
  · exact (refLook_out w S g ms h z hz).mono fun r w' ⟨h1, h2⟩ => ⟨zeroMg, false, h1, .inr ⟨hz, rfl, rfl⟩, zeroMg_in _ _ _, h2⟩
theorem take_at (w : World) (S : Nat → Prop) (g : Nat) (ms : List Mg) (h : Fli w S g ms) (z : Int) :
    Calls Try.prog 36 #[.pointer (some ⟨g, 0, none⟩), .int .i64 z] w fun r w' => ∃ x β, r = .returned (.tuple #[.agg (mc x).toArray, .bool β]) ∧ At ms z β x ∧ MgR w' (fun i => w.heap.size ≤ i ∧ i < w'.heap.size) x ∧ Fli w' S g (taken ms z) ∧ Off S w w' := by
  rcases at_cases ms z with ⟨k, m, rfl, hk⟩ | hz
  · exact (take_in w S g ms h k m hk).mono fun r w' ⟨m', h1, h2, h3, _, h4, h5⟩ => ⟨m', true, h1, .inl ⟨k, m, rfl, hk, rfl, h2⟩, h3, by rw [taken_in ms k m hk]; exact h4, h5⟩
  · exact (take_out w S g ms h z hz).mono fun r w' ⟨h1, h2⟩ => ⟨zeroMg, false, h1, .inr ⟨hz, rfl, rfl⟩, zeroMg_R _ _, by rw [taken_out ms z hz]; exact h.below h2, Off.of h2⟩
theorem refTake_at (w : World) (S : Nat → Prop) (g : Nat) (ms : List Mg) (h : Fli w S g ms) (hms : ms.length ≤ 1024) (z : Int) :
    Calls Try.prog 47 #[.pointer (some ⟨g, 0, none⟩), .int .i64 z] w fun r w' => ∃ x β, r = .returned (.tuple #[.agg (mc x).toArray, .bool β]) ∧ At ms z β x ∧ MgR w' (fun i => w.heap.size ≤ i ∧ i < w'.heap.size) x ∧ Fli w' (Grow S w w') g (taken ms z) ∧ Off S w w' := by
  rcases at_cases ms z with ⟨k, m, rfl, hk⟩ | hz
  · exact (refTake_in w S g ms h k m hk hms).mono fun r w' ⟨m', h1, h2, h3, _, h4, h5⟩ => ⟨m', true, h1, .inl ⟨k, m, rfl, hk, rfl, h2⟩, h3, by rw [taken_in ms k m hk]; exact h4, h5⟩
  · exact (refTake_out w S g ms h z hz).mono fun r w' ⟨h1, h2⟩ => ⟨zeroMg, false, h1, .inr ⟨hz, rfl, rfl⟩, zeroMg_R _ _, by
      rw [taken_out ms z hz]
      exact (h.below h2).more (fun i hi => .inl hi) (fun i hi => by
        rcases hi with hi | hi
        · exact Nat.lt_of_lt_of_le (h.inw i hi) h2.size
        · exact hi.2), Off.of h2⟩
theorem exists_first (f t : Int) : ∀ l : List Mg, ∃ z, FirstAt l f t z
  | [] => ⟨-1, .inl ⟨rfl, fun m hm => by cases hm⟩⟩
  | a :: l => by
    by_cases ha : goes f t a
    · exact ⟨((0 : Nat) : Int), .inr ⟨0, a, rfl, rfl, ha, fun j r hj => by omega⟩⟩
    · obtain ⟨z, hz⟩ := exists_first f t l
      rcases hz with ⟨_, h⟩ | ⟨k, m, _, hk, hg, hj⟩
      · refine ⟨-1, .inl ⟨rfl, fun m hm => ?_⟩⟩
        rcases List.mem_cons.1 hm with rfl | hm
        · exact ha
        · exact h m hm
      · refine ⟨((k + 1 : Nat) : Int), .inr ⟨k + 1, m, rfl, by simpa using hk, hg, fun j r hjk hr => ?_⟩⟩
        rcases j with _ | j
        · simp at hr; subst hr; exact ha
        · exact hj j r (by omega) (by simpa using hr)
theorem refBetween_fix (w : World) (S : Nat → Prop) (g : Nat) (ms : List Mg) (h : Fli w S g ms) (f t z : Int) (ls : List Mg) (hk : ms.map mkey = ls.map mkey) (hz : FirstAt ls f t z) :
    Calls Try.prog 49 #[.pointer (some ⟨g, 0, none⟩), .int .i64 f, .int .i64 t] w fun r w' => r = .returned (.int .i64 z) ∧ Below w.heap.size w w' :=
  (refBetween_any w S g ms h f t).mono fun _ _ ⟨z', h1, h2, q, h3⟩ => ⟨by rw [h1, FirstAt.same hk h2 hz], by rw [h3]; exact below_drewN (Below.refl _ _) q⟩
end Go.Proofs.Ytcidmlpjobdakaa
