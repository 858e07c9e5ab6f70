/- How entries are opened. -/
import Derived.Test.YtcidmlpjobdakaaRowC
import Derived.Test.YtcidmlpjobdakaaEnA
namespace Go.Proofs.Ytcidmlpjobdakaa
set_option linter.unusedSimpArgs false
set_option linter.unusedVariables false
set_option linter.unnecessarySimpa false
open Go.ChangeShapes Go.WideShapes Go.ChangeAt Go.RowKit Go.Deep Go.Joins

section
variable {H : Type} {enc : TypeId × Value → H} {W : World}
theorem bool_one {n : Nat} {v : Value} {y : DataW H × List MemPlace} (h : DataW.trod enc Try.prog W 0 (fun _ => true) true n 4 [v] = some y) : ∃ b : Bool, v = .bool b := by
  obtain ⟨b, e0, _⟩ := DataW.trod_bool Try.underlying4 h
  exact ⟨b, by simpa using e0⟩
/-- An entry. -/
theorem entry_el (n : Nat) (cs : List Value) (y : DataW H × List MemPlace) (h : DataW.trod enc Try.prog W 0 (fun _ => true) true n 39 cs = some y) : ∃ r : En, cs = nc r ∧ EvR W (· < W.heap.size) r.e ∧ I64 r.e.b0 ∧ I64 r.e.b1 := by
  obtain ⟨xs, n', _, _, hlen, hxl, hf⟩ := DataW.trod_struct Try.underlying39 h
  have hl2 : cs.length = 13 := hlen.trans (by kernel_rfl)
  have hI := hf 0 _ rfl
  have hx0 : xs[0]? = some (xs[0]'(by rw [hxl]; decide)) := List.getElem?_eq_getElem _
  obtain ⟨e, he, her, b0, b1⟩ := ev_el _ _ _ (hI.trans hx0)
  have he' : cs.take 10 = ec e := he
  obtain ⟨v1, y1, c1, h1⟩ := field_one hf hxl 1 _ rfl (by kernel_rfl) (by rw [hl2]; decide)
  obtain ⟨bv, rfl⟩ := bool_one h1
  have hJ := hf 2 _ rfl
  have hx2 : xs[2]? = some (xs[2]'(by rw [hxl]; decide)) := List.getElem?_eq_getElem _
  obtain ⟨j0, j1, hj⟩ := id_el _ _ _ (hJ.trans hx2)
  have hj' : (cs.drop 11).take 2 = [.int .i64 j0, .int .i64 j1] := hj
  refine ⟨⟨e, bv, j0, j1⟩, ?_, her, b0, b1⟩
  have e1 : cs = cs.take 10 ++ (cs.drop 10) := (List.take_append_drop 10 cs).symm
  have e2 : cs.drop 10 = .bool bv :: cs.drop 11 := by
    have hc := (List.getElem?_eq_some_iff.1 c1).2
    rw [List.drop_eq_getElem_cons (by omega)]
    exact congrArg (· :: cs.drop 11) hc
  have e3 : cs.drop 11 = [.int .i64 j0, .int .i64 j1] := by
    rw [← hj']
    exact (List.take_of_length_le (by rw [List.length_drop]; omega)).symm
  rw [e1, e2, e3, he']
  rfl
theorem entries_in {A : Option Addr} {len cap : Nat} {d : DataW H} {p : List MemPlace} (h : DataW.Trod enc Try.prog W 0 (fun _ => true) true 22 (.slice A len cap) d p) :
    ∃ l, (RL W (· < W.heap.size) A len l ∧ ∀ r ∈ l, I64 r.e.b0 ∧ I64 r.e.b1) ∧ len ≤ cap ∧ cap ≤ 9223372036854775807 := by
  obtain ⟨fuel, hf⟩ := h
  obtain ⟨l, h1, h2, h3, h4, _⟩ := open_flat (f := nc) (R := fun r => EvR W (· < W.heap.size) r.e ∧ I64 r.e.b0 ∧ I64 r.e.b1) (s := 13) Try.underlying22 (by kernel_rfl) (by decide) nc_length entry_el (show DataW.trod enc Try.prog W 0 (fun _ => true) true fuel 22 [.slice A len cap] = some (d, p) from hf)
  exact ⟨l, ⟨⟨h1, fun r hr => (h2 r hr).1⟩, fun r hr => (h2 r hr).2⟩, h3, h4⟩
end
end Go.Proofs.Ytcidmlpjobdakaa
