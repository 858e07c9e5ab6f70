/- Frames in a slice, as an argument. -/
import Derived.Test.YtinenekbdcbcnaaDoorRowF
import Derived.Test.YtinenekbdcbcnaaDoorFrL
import Derived.Deep.Slices
import Derived.Deep.Fields
import Derived.ChangeSame
import Derived.ChangeOld
namespace Go.Proofs.YtinenekbdcbcnaaDoor
open Go.ChangeShapes Go.WideShapes Go.ChangeAt Go.RowKit Go.Deep Go.Joins

section
variable {H : Type} {enc : TypeId × Value → H} {P : Program} {w : World} {base : Nat} {spare : Nat → Bool} {held : Bool}
/-- An argument that is a slice of structs, opened to cells. -/
theorem open_slice_fields {t e : TypeId} {fs : Array Field} {fuel : Nat} {cs : List Value} {x : DataW H × List MemPlace} (ht : P.underlying t = some (.slice e)) (he : P.underlying e = some (.struct fs))
    (hone : oneCellFields P fs = true) (hC : P.cellsOf e = fs.size) (h : DataW.trod enc P w base spare held fuel t cs = some x) :
    (cs = [.slice none 0 0] ∧ x = (.nil, [])) ∨
    ∃ (a : Addr) (len cap m : Nat), cs = [.slice (some a) len cap] ∧ len ≤ cap ∧ cap ≤ maxLen ∧ m = (if spare a.block then cap else len) ∧
      ∀ i, i < m → ∀ (j : Nat) (f : Field), fs[j]? = some f → ∃ (n : Nat) (v : Value) (y : DataW H × List MemPlace), w.cell? (a.add (i * fs.size + j)) = some v ∧ DataW.trod enc P w base spare held n f.type [v] = some y := by
  rcases open_slice ht h with h0 | ⟨a, len, cap, m, n, D, Pl, hcs, hb, hl, hm, hmm, hx, hi⟩
  · exact .inl h0
  · refine .inr ⟨a, len, cap, m, hcs, hl, hm, hmm, fun i him j f hj => ?_⟩
    obtain ⟨cs', hc, ht'⟩ := hi i him
    rw [hC] at hc
    obtain ⟨ys, n', hn', hy, hlen, hyl, hf⟩ := DataW.trod_struct he ht'
    obtain ⟨_, hcl, hat⟩ := World.cells?_some hc
    obtain ⟨ho, hk⟩ := hone_of hone j f hj
    have hjl : j < fs.size := (Array.getElem?_eq_some_iff.1 hj).1
    have hcell := hat j hjl
    have hv : cs'[j]? = some (cs'[j]'(by omega)) := List.getElem?_eq_getElem (by omega)
    have h1 := hf j f hj
    rw [ho, hk] at h1
    have hone' : (cs'.drop j).take 1 = [cs'[j]'(by omega)] := by
      rw [List.drop_eq_getElem_cons (by omega)]
      rfl
    rw [hone'] at h1
    have hys : ys[j]? = some (ys[j]'(by omega)) := List.getElem?_eq_getElem (by omega)
    refine ⟨_, _, _, ?_, h1.trans hys⟩
    rw [← Go.Deep.add_add, hcell, hv]
end

theorem choose_list {α : Type} {Q : Nat → α → Prop} : ∀ (n : Nat), (∀ i, i < n → ∃ r, Q i r) → ∃ l : List α, l.length = n ∧ ∀ i r, l[i]? = some r → Q i r
  | 0, _ => ⟨[], rfl, fun i r h => by simp at h⟩
  | n + 1, h => by
    obtain ⟨l, hl, hq⟩ := choose_list n fun i hi => h i (by omega)
    obtain ⟨r, hr⟩ := h n (by omega)
    refine ⟨l ++ [r], by simp [hl], fun i x hx => ?_⟩
    by_cases hi : i < n
    · rw [List.getElem?_append_left (by omega)] at hx; exact hq i x hx
    · rw [List.getElem?_append_right (by omega)] at hx
      have hi0 : i - l.length = 0 := by
        have := (List.getElem?_eq_some_iff.1 hx).1
        simp at this; omega
      rw [hi0] at hx
      simp at hx
      subst hx
      rw [show i = n from by omega]; exact hr


theorem frames_in {H : Type} {enc : TypeId × Value → H} {W : World} {A : Option Addr} {len cap : Nat} {d : DataW H} {p : List MemPlace} (h : DataW.Trod enc Tryd.prog W 0 (fun _ => true) true 40 (.slice A len cap) d p) :
    ∃ l : List Fm, (RF W (· < W.heap.size) A len l ∧ Bods W l) ∧ len ≤ cap ∧ cap ≤ 9223372036854775807 := by
  obtain ⟨fuel, hf⟩ := h
  rcases open_slice_fields Tryd.underlying40 Tryd.underlying48 (by kernel_rfl) (by kernel_rfl) hf with ⟨hcs, _⟩ | ⟨a, l, c, m, hcs, hl, hm, hmm, hcell⟩
  · simp [Value.cells] at hcs
    obtain ⟨rfl, rfl, rfl⟩ := hcs
    exact ⟨[], ⟨Reads.zero, fun r hr => by cases hr⟩, Nat.le_refl _, by decide⟩
  · simp [Value.cells] at hcs
    obtain ⟨rfl, rfl, rfl⟩ := hcs
    rw [if_pos rfl] at hmm
    subst hmm
    obtain ⟨b, off, spot⟩ := a
    obtain ⟨l, hll, hlq⟩ := choose_list (α := Fm) (Q := fun i r => (RB W (· < W.heap.size) r.A r.n r.body ∧ r.n ≤ r.c ∧ r.c ≤ 9223372036854775807) ∧ W.cell? ((⟨b, off, spot⟩ : Addr).add (i * 2 + 0)) = some (.int .i64 r.kind) ∧
        W.cell? ((⟨b, off, spot⟩ : Addr).add (i * 2 + 1)) = some (.slice r.A r.n r.c)) len (fun i hi => by
      obtain ⟨n0, v0, y0, hc0, ht0⟩ := hcell i (by omega) 0 _ rfl
      obtain ⟨n1, v1, y1, hc1, ht1⟩ := hcell i (by omega) 1 _ rfl
      obtain ⟨z, e0, _, wz⟩ := DataW.trod_int Tryd.underlying3 ht0
      simp at e0
      subst e0
      obtain ⟨A1, l1, c1, e1⟩ := slice_form Tryd.underlying23 ht1
      simp at e1
      subst e1
      obtain ⟨bs, hb, hl1, hm1⟩ := bytes_in (W := W) (A := A1) (len := l1) (cap := c1) (d := y1.1) (p := y1.2) ⟨n1, ht1⟩
      exact ⟨⟨z, A1, l1, c1, bs⟩, ⟨hb, hl1, hm1⟩, hc0, hc1⟩)
    refine ⟨l, ⟨⟨by rw [fcs_length, hll], fun hn => ?_⟩, fun r hr => ?_⟩, hl, by unfold maxLen at hm; exact hm⟩
    · obtain ⟨_, v0, _, c0, _⟩ := hcell 0 (by omega) 0 _ rfl
      have hspot : spot = none := by simpa [Addr.add] using World.cell?_spot c0
      subst hspot
      have hadd : ∀ j, (⟨b, off, none⟩ : Addr).add j = ⟨b, off + j, none⟩ := fun j => by unfold Addr.add; split <;> simp_all
      refine ⟨b, off, rfl, ?_, fun j u hu => ?_⟩
      · have := World.block_lt_of_cell? _ _ c0
        rw [hadd] at this; exact this
      · have hj : j < len * 2 := by
          have := (List.getElem?_eq_some_iff.1 hu).1
          rw [fcs_length, hll] at this; exact this
        have hjd : j = j / 2 * 2 + j % 2 := by omega
        obtain ⟨r, hr⟩ : ∃ r, l[j / 2]? = some r := ⟨_, List.getElem?_eq_getElem (by rw [hll]; omega)⟩
        obtain ⟨_, q0, q1⟩ := hlq _ _ hr
        rw [hjd, fcs_get l (j / 2) (j % 2) r hr (by omega)] at hu
        rw [hadd] at q0 q1
        have h2 : j % 2 = 0 ∨ j % 2 = 1 := by omega
        rcases h2 with h2 | h2
        · rw [h2] at hu
          cases hu
          rw [hjd, h2]; exact q0
        · rw [h2] at hu
          cases hu
          rw [hjd, h2]; exact q1
    · obtain ⟨i, hi, hr2⟩ := List.getElem_of_mem hr
      exact (hlq i r (by rw [List.getElem?_eq_getElem hi, hr2])).1
end Go.Proofs.YtinenekbdcbcnaaDoor
