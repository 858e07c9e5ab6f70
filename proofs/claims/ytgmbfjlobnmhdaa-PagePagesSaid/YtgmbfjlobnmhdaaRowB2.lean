/- How an argument that is a slice of ints is opened. -/
import Derived.Test.YtgmbfjlobnmhdaaRowB
namespace Go.Proofs.Ytgmbfjlobnmhdaa
open Go.ChangeShapes Go.WideShapes Go.ChangeAt Go.RowKit

theorem reads_in {W : World} {a : Addr} {len cap : Nat} {k : IntKind} {zs : List Int} (hb : 0 < len → a.block < W.heap.size) (hl : len ≤ cap) (hz : zs.length = cap) (hc : ∀ i, i < zs.length → W.cell? (a.add i) = some (.int k (zs.getD i 0))) :
    Reads W (· < W.heap.size) 1 (some a) len ((zs.take len).map (Value.int k)) := by
  refine ⟨by simp; omega, fun hn => ?_⟩
  obtain ⟨b, off, spot⟩ := a
  have hspot : spot = none := by
    have := hc 0 (by omega)
    simpa [Addr.add] using World.cell?_spot this
  subst hspot
  refine ⟨b, off, rfl, hb hn, fun j u hu => ?_⟩
  have hj : j < len := by
    have := (List.getElem?_eq_some_iff.1 hu).1
    simp at this; omega
  have h1 := hc j (by omega)
  have h2 : ((⟨b, off, none⟩ : Addr).add j) = ⟨b, off + j, none⟩ := by unfold Addr.add; split <;> simp_all
  rw [h2] at h1
  rw [h1]
  have h3 : ((zs.take len).map (Value.int k))[j]? = some (.int k (zs.getD j 0)) := by
    simp [List.getElem?_take, hj, List.getElem?_eq_getElem (show j < zs.length by omega), List.getD]
  rw [h3] at hu
  exact hu

section
variable {H : Type} {enc : TypeId × Value → H} {W : World}
theorem ints_in {A : Option Addr} {len cap : Nat} {d : DataW H} {p : List MemPlace} (h : DataW.Trod enc Try.prog W 0 (fun _ => true) true 31 (.slice A len cap) d p) :
    ∃ zs, RI W (· < W.heap.size) A len zs ∧ len ≤ cap ∧ cap ≤ 9223372036854775807 := by
  obtain ⟨fuel, hf⟩ := h
  rcases open_ints Try.underlying31 Try.underlying3 (by kernel_rfl) hf with ⟨hcs, _⟩ | ⟨x, l, c, zs, hcs, _, hl, hm, hz, _, hcell, hwz⟩
  · simp [Value.cells] at hcs
    obtain ⟨rfl, rfl, rfl⟩ := hcs
    exact ⟨[], RI.nil _ _ _, Nat.le_refl _, by decide⟩
  · simp [Value.cells] at hcs
    obtain ⟨rfl, rfl, rfl⟩ := hcs
    have hz' : zs.length = cap := by simpa using hz
    exact ⟨zs.take len, ⟨reads_in (k := .i64) (a := x) (fun h0 => World.block_lt_of_cell? _ _ (by have := hcell 0 (by omega); simpa [Addr.add] using this)) hl hz' hcell,
      fun z hz2 => i64_of_wf (hwz z (List.mem_of_mem_take hz2))⟩, hl, by unfold maxLen at hm; exact hm⟩
end
end Go.Proofs.Ytgmbfjlobnmhdaa
