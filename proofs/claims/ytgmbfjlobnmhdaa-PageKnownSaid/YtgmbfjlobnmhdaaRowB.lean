/- What the rows of this seat share: how arguments are opened. -/
import Derived.Test.YtgmbfjlobnmhdaaRw
import Derived.Deep.Slices
import Derived.Deep.Fields
import Derived.ChangeSame
import Derived.ChangeOld
import Derived.Lib.SmallJoins
namespace Go.Proofs.Ytgmbfjlobnmhdaa
open Go.ChangeShapes Go.WideShapes Go.ChangeAt Go.RowKit Go.Deep Go.Joins

theorem own : ownKnob Try.prog.godebug = none := by kernel_rfl
theorem laidOut : laidOutB Try.prog = true := by kernel_rfl
theorem i64_of_wf {a : Int} (h : (Lit.int .i64 a).wf = true) : I64 a := by
  unfold I64
  simpa [Lit.wf, IntKind.min, IntKind.max, IntKind.signed, IntKind.bits] using h

section
variable {H : Type} {enc : TypeId × Value → H} {P : Program} {w : World} {base : Nat} {spare : Nat → Bool} {held : Bool}
/-- An argument that is a slice of structs, opened to cells. -/
theorem open_slice_fields {t e : TypeId} {fs : Array Field} {fuel : Nat} {cs : List Value} {x : DataW H × List MemPlace} (ht : P.underlying t = some (.slice e)) (he : P.underlying e = some (.struct fs))
    (hone : oneCellFields P fs = true) (hC : P.cellsOf e = fs.size) (h : DataW.trod enc P w base spare held fuel t cs = some x) :
    (cs = [.slice none 0 0] ∧ x = (.nil, [])) ∨
    ∃ (a : Addr) (len cap m : Nat), cs = [.slice (some a) len cap] ∧ len ≤ cap ∧ cap ≤ maxLen ∧ m = (if spare a.block then cap else len) ∧
      ∀ i, i < m → ∀ (j : Nat) (f : Field), fs[j]? = some f → ∃ (n : Nat) (v : Value) (y : DataW H × List MemPlace), w.cell? (a.add (i * fs.size + j)) = some v ∧ DataW.trod enc P w base spare held n f.type [v] = some y := by
  rcases open_slice ht h with h0 | ⟨a, len, cap, m, n, D, Pl, hcs, hb, hl, hm, hmm, hx, hi⟩
  · exact .inl h0
  · refine .inr ⟨a, len, cap, m, hcs, hl, hm, hmm, fun i him j f hj => ?_⟩
    obtain ⟨cs', hc, ht'⟩ := hi i him
    rw [hC] at hc
    obtain ⟨ys, n', hn', hy, hlen, hyl, hf⟩ := DataW.trod_struct he ht'
    obtain ⟨_, hcl, hat⟩ := World.cells?_some hc
    obtain ⟨ho, hk⟩ := hone_of hone j f hj
    have hjl : j < fs.size := (Array.getElem?_eq_some_iff.1 hj).1
    have hcell := hat j hjl
    have hv : cs'[j]? = some (cs'[j]'(by omega)) := List.getElem?_eq_getElem (by omega)
    have h1 := hf j f hj
    rw [ho, hk] at h1
    have hone' : (cs'.drop j).take 1 = [cs'[j]'(by omega)] := by
      rw [List.drop_eq_getElem_cons (by omega)]
      rfl
    rw [hone'] at h1
    have hys : ys[j]? = some (ys[j]'(by omega)) := List.getElem?_eq_getElem (by omega)
    refine ⟨_, _, _, ?_, h1.trans hys⟩
    rw [← Go.Deep.add_add, hcell, hv]
end

theorem choose_list {α : Type} {Q : Nat → α → Prop} : ∀ (n : Nat), (∀ i, i < n → ∃ r, Q i r) → ∃ l : List α, l.length = n ∧ ∀ i r, l[i]? = some r → Q i r
  | 0, _ => ⟨[], rfl, fun i r h => by simp at h⟩
  | n + 1, h => by
    obtain ⟨l, hl, hq⟩ := choose_list n fun i hi => h i (by omega)
    obtain ⟨r, hr⟩ := h n (by omega)
    refine ⟨l ++ [r], by simp [hl], fun i x hx => ?_⟩
    by_cases hi : i < n
    · rw [List.getElem?_append_left (by omega)] at hx; exact hq i x hx
    · rw [List.getElem?_append_right (by omega)] at hx
      have hi0 : i - l.length = 0 := by
        have := (List.getElem?_eq_some_iff.1 hx).1
        simp at this; omega
      rw [hi0] at hx
      simp at hx
      subst hx
      rw [show i = n from by omega]; exact hr

section
variable {H : Type} {enc : TypeId × Value → H} {W : World}
theorem rows_in {A : Option Addr} {len cap : Nat} {d : DataW H} {p : List MemPlace} (h : DataW.Trod enc Try.prog W 0 (fun _ => true) true 22 (.slice A len cap) d p) :
    ∃ l, RR W (· < W.heap.size) A len l ∧ len ≤ cap ∧ cap ≤ 9223372036854775807 := by
  obtain ⟨fuel, hf⟩ := h
  rcases open_slice_fields Try.underlying22 Try.underlying34 (by kernel_rfl) (by kernel_rfl) hf with ⟨hcs, _⟩ | ⟨a, l, c, m, hcs, hl, hm, hmm, hcell⟩
  · simp [Value.cells] at hcs
    obtain ⟨rfl, rfl, rfl⟩ := hcs
    exact ⟨[], RR.nil _ _ _, Nat.le_refl _, by decide⟩
  · simp [Value.cells] at hcs
    obtain ⟨rfl, rfl, rfl⟩ := hcs
    rw [if_pos rfl] at hmm
    subst hmm
    obtain ⟨b, off, spot⟩ := a
    have hfield : ∀ i, i < len → ∀ j, j < 3 → ∃ z, I64 z ∧ W.cell? ((⟨b, off, spot⟩ : Addr).add (i * 3 + j)) = some (.int .i64 z) := by
      intro i hi j hj
      have key : ∀ (f : Field), f.type = 3 → (∃ (n : Nat) (v : Value) (y : DataW H × List MemPlace), W.cell? ((⟨b, off, spot⟩ : Addr).add (i * 3 + j)) = some v ∧ DataW.trod enc Try.prog W 0 (fun _ => true) true n f.type [v] = some y) →
          ∃ z, I64 z ∧ W.cell? ((⟨b, off, spot⟩ : Addr).add (i * 3 + j)) = some (.int .i64 z) := by
        rintro f hf ⟨n, v, y, hc, ht⟩
        rw [hf] at ht
        obtain ⟨z, e0, _, wz⟩ := DataW.trod_int Try.underlying3 ht
        simp at e0
        subst e0
        exact ⟨z, i64_of_wf wz, hc⟩
      match j, hj with
      | 0, _ => exact key _ rfl (hcell i (by omega) 0 _ rfl)
      | 1, _ => exact key _ rfl (hcell i (by omega) 1 _ rfl)
      | 2, _ => exact key _ rfl (hcell i (by omega) 2 _ rfl)
    obtain ⟨l, hll, hlq⟩ := choose_list (α := Rw) (Q := fun i r => RwOk r ∧ W.cell? ((⟨b, off, spot⟩ : Addr).add (i * 3 + 0)) = some (.int .i64 r.1) ∧ W.cell? ((⟨b, off, spot⟩ : Addr).add (i * 3 + 1)) = some (.int .i64 r.2.1) ∧
        W.cell? ((⟨b, off, spot⟩ : Addr).add (i * 3 + 2)) = some (.int .i64 r.2.2)) len (fun i hi => by
      obtain ⟨z0, h0, c0⟩ := hfield i hi 0 (by decide)
      obtain ⟨z1, h1, c1⟩ := hfield i hi 1 (by decide)
      obtain ⟨z2, h2, c2⟩ := hfield i hi 2 (by decide)
      exact ⟨(z0, z1, z2), ⟨h0, h1, h2⟩, c0, c1, c2⟩)
    refine ⟨l, ⟨⟨by rw [rcs_length, hll], fun hn => ?_⟩, fun r hr => ?_⟩, hl, by unfold maxLen at hm; exact hm⟩
    · obtain ⟨z0, _, c0⟩ := hfield 0 hn 0 (by decide)
      have hspot : spot = none := by simpa [Addr.add] using World.cell?_spot c0
      subst hspot
      have hadd : ∀ j, (⟨b, off, none⟩ : Addr).add j = ⟨b, off + j, none⟩ := fun j => by unfold Addr.add; split <;> simp_all
      refine ⟨b, off, rfl, ?_, fun j u hu => ?_⟩
      · have := World.block_lt_of_cell? _ _ c0
        rw [hadd] at this; exact this
      · have hj : j < len * 3 := by
          have := (List.getElem?_eq_some_iff.1 hu).1
          rw [rcs_length, hll] at this; exact this
        have hjd : j = j / 3 * 3 + j % 3 := by omega
        obtain ⟨r, hr⟩ : ∃ r, l[j / 3]? = some r := ⟨_, List.getElem?_eq_getElem (by rw [hll]; omega)⟩
        rw [hjd, rcs_get l (j / 3) (j % 3) r hr (by omega)] at hu
        obtain ⟨_, c0, c1, c2⟩ := hlq _ _ hr
        rw [hadd] at c0 c1 c2
        rw [hjd]
        have h3 : j % 3 = 0 ∨ j % 3 = 1 ∨ j % 3 = 2 := by omega
        rcases h3 with h3 | h3 | h3 <;> rw [h3] at hu ⊢ <;> simp [rc] at hu <;> subst hu <;> assumption
    · obtain ⟨i, hi, hri⟩ := List.getElem_of_mem hr
      exact (hlq i r (by rw [← hri]; exact List.getElem?_eq_getElem hi)).1
end
end Go.Proofs.Ytgmbfjlobnmhdaa
