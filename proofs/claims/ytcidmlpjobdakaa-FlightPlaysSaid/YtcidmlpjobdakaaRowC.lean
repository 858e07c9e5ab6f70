/- How arguments of this seat are opened: numbers, events, messages, acts. -/
import Derived.Test.YtcidmlpjobdakaaMgI
import Derived.Deep.Slices
import Derived.Deep.Fields
import Derived.ChangeSame
import Derived.ChangeOld
import Derived.Lib.SmallJoins
namespace Go.Proofs.Ytcidmlpjobdakaa
set_option linter.unusedSimpArgs false
set_option linter.unusedVariables false
set_option linter.unnecessarySimpa false
open Go.ChangeShapes Go.WideShapes Go.ChangeAt Go.RowKit Go.Deep Go.Joins

theorem own : ownKnob Try.prog.godebug = none := by kernel_rfl
theorem laidOut : laidOutB Try.prog = true := by kernel_rfl
def I64 (z : Int) : Prop := -9223372036854775808 ≤ z ∧ z ≤ 9223372036854775807
theorem i64_of_wf {a : Int} (h : (Lit.int .i64 a).wf = true) : I64 a := by
  unfold I64
  simpa [Lit.wf, IntKind.min, IntKind.max, IntKind.signed, IntKind.bits] using h
theorem choose_list {α : Type} {Q : Nat → α → Prop} : ∀ (n : Nat), (∀ i, i < n → ∃ r, Q i r) → ∃ l : List α, l.length = n ∧ ∀ i r, l[i]? = some r → Q i r
  | 0, _ => ⟨[], rfl, fun i r h => by simp at h⟩
  | n + 1, h => by
    obtain ⟨l, hl, hq⟩ := choose_list n fun i hi => h i (by omega)
    obtain ⟨r, hr⟩ := h n (by omega)
    refine ⟨l ++ [r], by simp [hl], fun i x hx => ?_⟩
    by_cases hi : i < n
    · rw [List.getElem?_append_left (by omega)] at hx; exact hq i x hx
    · rw [List.getElem?_append_right (by omega)] at hx
      have hi0 : i - l.length = 0 := by
        have := (List.getElem?_eq_some_iff.1 hx).1
        simp at this; omega
      rw [hi0] at hx
      simp at hx
      subst hx
      rw [show i = n from by omega]; exact hr

section
variable {H : Type} {enc : TypeId × Value → H} {W : World}
/-- A slice of structs, opened: each element as it says of itself. -/
theorem open_flat {t e : TypeId} {s : Nat} {α : Type} {f : α → List Value} {R : α → Prop} (ht : Try.prog.underlying t = some (.slice e)) (hs : Try.prog.cellsOf e = s) (hs0 : 0 < s) (hf : ∀ a, (f a).length = s)
    (hel : ∀ (n : Nat) (cs : List Value) (y : DataW H × List MemPlace), DataW.trod enc Try.prog W 0 (fun _ => true) true n e cs = some y → ∃ a, cs = f a ∧ R a)
    {A : Option Addr} {len cap fuel : Nat} {x : DataW H × List MemPlace} (h : DataW.trod enc Try.prog W 0 (fun _ => true) true fuel t [.slice A len cap] = some x) :
    ∃ l : List α, Reads W (· < W.heap.size) s A len (l.flatMap f) ∧ (∀ a ∈ l, R a) ∧ len ≤ cap ∧ cap ≤ 9223372036854775807 ∧ (A = none → cap = 0) := by
  rcases open_slice ht h with ⟨hcs, _⟩ | ⟨a, l, c, m, n, D, Pl, hcs, hb, hl, hm, hmm, hx, hi⟩
  · simp at hcs
    obtain ⟨rfl, rfl, rfl⟩ := hcs
    exact ⟨[], Reads.zero, (fun r hr => by cases hr), Nat.le_refl _, by decide, fun _ => rfl⟩
  · simp at hcs
    obtain ⟨rfl, rfl, rfl⟩ := hcs
    rw [if_pos rfl] at hmm
    subst hmm
    rw [hs] at hi
    obtain ⟨b, off, spot⟩ := a
    obtain ⟨ls, hll, hlq⟩ := choose_list (α := α) (Q := fun i r => R r ∧ ∀ j, j < s → W.cell? ((⟨b, off, spot⟩ : Addr).add (i * s + j)) = (f r)[j]?) len (fun i hi' => by
      obtain ⟨cs', hc, ht'⟩ := hi i (by omega)
      obtain ⟨r, rfl, hr⟩ := hel _ _ _ ht'
      obtain ⟨_, _, hat⟩ := World.cells?_some hc
      exact ⟨r, hr, fun j hj => by rw [← Go.Deep.add_add]; exact hat j hj⟩)
    refine ⟨ls, ⟨by rw [flat_length hf, hll], fun hn => ?_⟩, fun r hr => ?_, hl, by unfold maxLen at hm; exact hm, fun e => by cases e⟩
    · obtain ⟨r0, hr0⟩ : ∃ r, ls[0]? = some r := ⟨_, List.getElem?_eq_getElem (by omega)⟩
      have c0 := (hlq 0 r0 hr0).2 0 hs0
      rw [List.getElem?_eq_getElem (by rw [hf]; exact hs0)] at c0
      have hspot : spot = none := by simpa [Addr.add] using World.cell?_spot c0
      subst hspot
      have hadd : ∀ j, (⟨b, off, none⟩ : Addr).add j = ⟨b, off + j, none⟩ := fun j => by unfold Addr.add; split <;> simp_all
      refine ⟨b, off, rfl, ?_, fun j u hu => ?_⟩
      · have := World.block_lt_of_cell? _ _ c0
        rw [hadd] at this; exact this
      · have hj : j < len * s := by
          have := (List.getElem?_eq_some_iff.1 hu).1
          rw [flat_length hf, hll] at this; exact this
        have hjd : j = j / s * s + j % s := by rw [Nat.mul_comm]; exact (Nat.div_add_mod j s).symm
        have hjm : j % s < s := Nat.mod_lt _ hs0
        have hjq : j / s < len := Nat.div_lt_of_lt_mul (by rw [Nat.mul_comm]; exact hj)
        obtain ⟨r, hr⟩ : ∃ r, ls[j / s]? = some r := ⟨_, List.getElem?_eq_getElem (by omega)⟩
        have q0 := (hlq _ _ hr).2 (j % s) hjm
        rw [hadd, ← hjd] at q0
        rw [hjd, flat_get hf ls (j / s) (j % s) r hr hjm] at hu
        rw [q0]; exact hu
    · obtain ⟨i, hi2, hri⟩ := List.getElem_of_mem hr
      exact (hlq i r (by rw [← hri]; exact List.getElem?_eq_getElem hi2)).1
theorem field_one {fs : Array Field} {cs : List Value} {xs : List (DataW H × List MemPlace)} {n : Nat} (hf : ∀ (i : Nat) (f : Field), fs[i]? = some f → DataW.trod enc Try.prog W 0 (fun _ => true) true n f.type ((cs.drop f.offset).take (Try.prog.cellsOf f.type)) = xs[i]?)
    (hx : xs.length = fs.size) (j : Nat) (f : Field) (hfj : fs[j]? = some f) (hc : Try.prog.cellsOf f.type = 1) (hl : f.offset < cs.length) :
    ∃ v y, cs[f.offset]? = some v ∧ DataW.trod enc Try.prog W 0 (fun _ => true) true n f.type [v] = some y := by
  have h1 := hf j f hfj
  have hj : j < fs.size := (Array.getElem?_eq_some_iff.1 hfj).1
  rw [hc] at h1
  have hone : (cs.drop f.offset).take 1 = [cs[f.offset]'hl] := by
    rw [List.drop_eq_getElem_cons hl]; rfl
  rw [hone, List.getElem?_eq_getElem (by omega)] at h1
  exact ⟨_, _, List.getElem?_eq_getElem hl, h1⟩
theorem int_el (n : Nat) (cs : List Value) (y : DataW H × List MemPlace) (h : DataW.trod enc Try.prog W 0 (fun _ => true) true n 3 cs = some y) : ∃ z : Int, cs = [.int .i64 z] ∧ I64 z := by
  obtain ⟨z, e0, _, wz⟩ := DataW.trod_int Try.underlying3 h
  exact ⟨z, e0, i64_of_wf wz⟩
theorem int_one {n : Nat} {v : Value} {y : DataW H × List MemPlace} (h : DataW.trod enc Try.prog W 0 (fun _ => true) true n 3 [v] = some y) : ∃ z : Int, v = .int .i64 z ∧ I64 z := by
  obtain ⟨z, e0, hz⟩ := int_el n _ y h
  exact ⟨z, by simpa using e0, hz⟩
theorem ints_flat (l : List Int) : ints l = l.flatMap (fun z : Int => [Value.int .i64 z]) := by
  unfold ints
  induction l with
  | nil => rfl
  | cons a r ih => rw [List.map_cons, List.flatMap_cons, ← ih]; rfl
/-- Numbers. -/
theorem nums_at {n : Nat} {A : Option Addr} {len cap : Nat} {y : DataW H × List MemPlace} (h : DataW.trod enc Try.prog W 0 (fun _ => true) true n 31 [.slice A len cap] = some y) :
    ∃ zs, RN W (· < W.heap.size) A len zs ∧ (∀ z ∈ zs, I64 z) ∧ len ≤ cap ∧ cap ≤ 9223372036854775807 ∧ (A = none → cap = 0) := by
  obtain ⟨l, h1, h2⟩ := open_flat (f := fun z : Int => [Value.int .i64 z]) (R := I64) (s := 1) Try.underlying31 (by kernel_rfl) (by decide) (fun _ => rfl) int_el h
  have e : ints l = l.flatMap (fun z : Int => [Value.int .i64 z]) := ints_flat l
  exact ⟨l, by unfold RN; rw [e]; exact h1, h2⟩
theorem nums_one {n : Nat} {v : Value} {y : DataW H × List MemPlace} (h : DataW.trod enc Try.prog W 0 (fun _ => true) true n 31 [v] = some y) :
    ∃ A len cap zs, v = .slice A len cap ∧ RN W (· < W.heap.size) A len zs ∧ len ≤ cap ∧ cap ≤ 9223372036854775807 ∧ (A = none → cap = 0) := by
  obtain ⟨A, len, cap, e⟩ := slice_form Try.underlying31 h
  obtain rfl : v = .slice A len cap := by simpa using e
  obtain ⟨zs, h1, _, h2⟩ := nums_at h
  exact ⟨A, len, cap, zs, rfl, h1, h2⟩
theorem id_el (n : Nat) (cs : List Value) (y : DataW H × List MemPlace) (h : DataW.trod enc Try.prog W 0 (fun _ => true) true n 35 cs = some y) : ∃ a b : Int, cs = [.int .i64 a, .int .i64 b] := by
  obtain ⟨xs, n', _, _, hlen, hxl, hf⟩ := DataW.trod_struct Try.underlying35 h
  have hl2 : cs.length = 2 := hlen.trans (by kernel_rfl)
  obtain ⟨v0, y0, c0, h0⟩ := field_one hf hxl 0 _ rfl (by kernel_rfl) (by rw [hl2]; decide)
  obtain ⟨v1, y1, c1, h1⟩ := field_one hf hxl 1 _ rfl (by kernel_rfl) (by rw [hl2]; decide)
  obtain ⟨z0, rfl, _⟩ := int_one h0
  obtain ⟨z1, rfl, _⟩ := int_one h1
  refine ⟨z0, z1, List.ext_getElem? fun j => ?_⟩
  match j with
  | 0 => exact c0
  | 1 => exact c1
  | j + 2 => rw [List.getElem?_eq_none (by omega), List.getElem?_eq_none (by simp)]
/-- An event. -/
theorem ev_el (n : Nat) (cs : List Value) (y : DataW H × List MemPlace) (h : DataW.trod enc Try.prog W 0 (fun _ => true) true n 37 cs = some y) : ∃ e : Ev, cs = ec e ∧ EvR W (· < W.heap.size) e ∧ I64 e.b0 ∧ I64 e.b1 := by
  obtain ⟨xs, n', _, _, hlen, hxl, hf⟩ := DataW.trod_struct Try.underlying37 h
  have hl2 : cs.length = 10 := hlen.trans (by kernel_rfl)
  have hI := hf 0 _ rfl
  have hx0 : xs[0]? = some (xs[0]'(by rw [hxl]; decide)) := List.getElem?_eq_getElem _
  obtain ⟨i0, i1, hi⟩ := id_el _ _ _ (hI.trans hx0)
  have hi' : cs.take 2 = [.int .i64 i0, .int .i64 i1] := hi
  obtain ⟨v1, y1, c1, h1⟩ := field_one hf hxl 1 _ rfl (by kernel_rfl) (by rw [hl2]; decide)
  obtain ⟨v2, y2, c2, h2⟩ := field_one hf hxl 2 _ rfl (by kernel_rfl) (by rw [hl2]; decide)
  obtain ⟨v3, y3, c3, h3⟩ := field_one hf hxl 3 _ rfl (by kernel_rfl) (by rw [hl2]; decide)
  obtain ⟨v4, y4, c4, h4⟩ := field_one hf hxl 4 _ rfl (by kernel_rfl) (by rw [hl2]; decide)
  obtain ⟨v5, y5, c5, h5⟩ := field_one hf hxl 5 _ rfl (by kernel_rfl) (by rw [hl2]; decide)
  obtain ⟨v6, y6, c6, h6⟩ := field_one hf hxl 6 _ rfl (by kernel_rfl) (by rw [hl2]; decide)
  obtain ⟨v7, y7, c7, h7⟩ := field_one hf hxl 7 _ rfl (by kernel_rfl) (by rw [hl2]; decide)
  obtain ⟨v8, y8, c8, h8⟩ := field_one hf hxl 8 _ rfl (by kernel_rfl) (by rw [hl2]; decide)
  obtain ⟨z1, rfl, _⟩ := int_one h1
  obtain ⟨A, len, cap, zs, rfl, hr, hlc, hc63, hnil⟩ := nums_one h2
  obtain ⟨z3, rfl, b3⟩ := int_one h3
  obtain ⟨z4, rfl, b4⟩ := int_one h4
  obtain ⟨z5, rfl, _⟩ := int_one h5
  obtain ⟨z6, rfl, _⟩ := int_one h6
  obtain ⟨z7, rfl, _⟩ := int_one h7
  obtain ⟨z8, rfl, _⟩ := int_one h8
  have t0 : cs[0]? = some (.int .i64 i0) := by have := congrArg (fun q => q[0]?) hi'; simpa [List.getElem?_take] using this
  have t1 : cs[1]? = some (.int .i64 i1) := by have := congrArg (fun q => q[1]?) hi'; simpa [List.getElem?_take] using this
  refine ⟨⟨i0, i1, z1, A, len, cap, zs, z3, z4, z5, z6, z7, z8⟩, List.ext_getElem? fun j => ?_, ⟨hr, hlc, hc63, hnil⟩, b3, b4⟩
  match j with
  | 0 => exact t0
  | 1 => exact t1
  | 2 => exact c1
  | 3 => exact c2
  | 4 => exact c3
  | 5 => exact c4
  | 6 => exact c5
  | 7 => exact c6
  | 8 => exact c7
  | 9 => exact c8
  | j + 10 => rw [List.getElem?_eq_none (by omega), List.getElem?_eq_none (by simp [ec])]
theorem evs_one {n : Nat} {v : Value} {y : DataW H × List MemPlace} (h : DataW.trod enc Try.prog W 0 (fun _ => true) true n 52 [v] = some y) :
    ∃ A len cap l, v = .slice A len cap ∧ RE W (· < W.heap.size) A len l ∧ len ≤ cap ∧ cap ≤ 9223372036854775807 ∧ (A = none → cap = 0) := by
  obtain ⟨A, len, cap, e⟩ := slice_form Try.underlying52 h
  obtain rfl : v = .slice A len cap := by simpa using e
  obtain ⟨l, h1, h2, h3⟩ := open_flat (f := ec) (R := fun e => EvR W (· < W.heap.size) e) (s := 10) Try.underlying52 (by kernel_rfl) (by decide) ec_length (fun n cs y h => by obtain ⟨e, h1, h2, _⟩ := ev_el n cs y h; exact ⟨e, h1, h2⟩) h
  exact ⟨A, len, cap, l, rfl, ⟨h1, h2⟩, h3⟩
/-- A message. -/
theorem msg_el (n : Nat) (cs : List Value) (y : DataW H × List MemPlace) (h : DataW.trod enc Try.prog W 0 (fun _ => true) true n 54 cs = some y) : ∃ m : Mg, cs = mc m ∧ MgR W (· < W.heap.size) m := by
  obtain ⟨xs, n', _, _, hlen, hxl, hf⟩ := DataW.trod_struct Try.underlying54 h
  have hl2 : cs.length = 5 := hlen.trans (by kernel_rfl)
  obtain ⟨v0, y0, c0, h0⟩ := field_one hf hxl 0 _ rfl (by kernel_rfl) (by rw [hl2]; decide)
  obtain ⟨v1, y1, c1, h1⟩ := field_one hf hxl 1 _ rfl (by kernel_rfl) (by rw [hl2]; decide)
  obtain ⟨v2, y2, c2, h2⟩ := field_one hf hxl 2 _ rfl (by kernel_rfl) (by rw [hl2]; decide)
  obtain ⟨v3, y3, c3, h3⟩ := field_one hf hxl 3 _ rfl (by kernel_rfl) (by rw [hl2]; decide)
  obtain ⟨v4, y4, c4, h4⟩ := field_one hf hxl 4 _ rfl (by kernel_rfl) (by rw [hl2]; decide)
  obtain ⟨z0, rfl, _⟩ := int_one h0
  obtain ⟨z1, rfl, _⟩ := int_one h1
  obtain ⟨z2, rfl, _⟩ := int_one h2
  obtain ⟨A, len, cap, zs, rfl, hr, hlc, hc63, hnil⟩ := nums_one h3
  obtain ⟨A', len', cap', es, rfl, hr', hlc', hc63', hnil'⟩ := evs_one h4
  refine ⟨⟨z0, z1, z2, A, len, cap, zs, A', len', cap', es⟩, List.ext_getElem? fun j => ?_, hr, ⟨hlc, hc63, hnil⟩, hr', hlc', hc63', hnil'⟩
  match j with
  | 0 => exact c0
  | 1 => exact c1
  | 2 => exact c2
  | 3 => exact c3
  | 4 => exact c4
  | j + 5 => rw [List.getElem?_eq_none (by omega), List.getElem?_eq_none (by simp [mc])]
theorem msgs_one {n : Nat} {v : Value} {y : DataW H × List MemPlace} (h : DataW.trod enc Try.prog W 0 (fun _ => true) true n 48 [v] = some y) :
    ∃ A len cap l, v = .slice A len cap ∧ RM W (· < W.heap.size) A len l ∧ len ≤ cap ∧ cap ≤ 9223372036854775807 ∧ (A = none → cap = 0) := by
  obtain ⟨A, len, cap, e⟩ := slice_form Try.underlying48 h
  obtain rfl : v = .slice A len cap := by simpa using e
  obtain ⟨l, h1, h2, h3⟩ := open_flat (f := mc) (s := 5) Try.underlying48 (by kernel_rfl) (by decide) mc_length msg_el h
  exact ⟨A, len, cap, l, rfl, ⟨h1, h2⟩, h3⟩
theorem msgs_in {A : Option Addr} {len cap : Nat} {d : DataW H} {p : List MemPlace} (h : DataW.Trod enc Try.prog W 0 (fun _ => true) true 48 (.slice A len cap) d p) :
    ∃ l, RM W (· < W.heap.size) A len l ∧ len ≤ cap ∧ cap ≤ 9223372036854775807 ∧ (A = none → cap = 0) := by
  obtain ⟨fuel, hf⟩ := h
  obtain ⟨A', len', cap', l, e, h1⟩ := msgs_one (v := .slice A len cap) hf
  cases e
  exact ⟨l, h1⟩
theorem ints_in {A : Option Addr} {len cap : Nat} {d : DataW H} {p : List MemPlace} (h : DataW.Trod enc Try.prog W 0 (fun _ => true) true 31 (.slice A len cap) d p) :
    ∃ zs, RN W (· < W.heap.size) A len zs ∧ (∀ z ∈ zs, I64 z) ∧ len ≤ cap ∧ cap ≤ 9223372036854775807 ∧ (A = none → cap = 0) := by
  obtain ⟨fuel, hf⟩ := h
  exact nums_at hf
/-- An act. -/
theorem act_el (n : Nat) (cs : List Value) (y : DataW H × List MemPlace) (h : DataW.trod enc Try.prog W 0 (fun _ => true) true n 50 cs = some y) : ∃ a : Ac, cs = av a ∧ AcR W (· < W.heap.size) a ∧ I64 a.kind ∧ I64 a.i ∧ I64 a.k := by
  obtain ⟨xs, n', _, _, hlen, hxl, hf⟩ := DataW.trod_struct Try.underlying50 h
  have hl2 : cs.length = 4 := hlen.trans (by kernel_rfl)
  obtain ⟨v0, y0, c0, h0⟩ := field_one hf hxl 0 _ rfl (by kernel_rfl) (by rw [hl2]; decide)
  obtain ⟨v1, y1, c1, h1⟩ := field_one hf hxl 1 _ rfl (by kernel_rfl) (by rw [hl2]; decide)
  obtain ⟨v2, y2, c2, h2⟩ := field_one hf hxl 2 _ rfl (by kernel_rfl) (by rw [hl2]; decide)
  obtain ⟨v3, y3, c3, h3⟩ := field_one hf hxl 3 _ rfl (by kernel_rfl) (by rw [hl2]; decide)
  obtain ⟨z0, rfl, b0⟩ := int_one h0
  obtain ⟨z1, rfl, b1⟩ := int_one h1
  obtain ⟨z2, rfl, b2⟩ := int_one h2
  obtain ⟨A, len, cap, zs, rfl, hr, hlc, hc63, hnil⟩ := msgs_one h3
  refine ⟨⟨z0, z1, z2, A, len, cap, zs⟩, List.ext_getElem? fun j => ?_, ⟨hr, hlc, hc63, hnil⟩, b0, b1, b2⟩
  match j with
  | 0 => exact c0
  | 1 => exact c1
  | 2 => exact c2
  | 3 => exact c3
  | j + 4 => rw [List.getElem?_eq_none (by omega), List.getElem?_eq_none (by simp [av])]
theorem acts_in {A : Option Addr} {len cap : Nat} {d : DataW H} {p : List MemPlace} (h : DataW.Trod enc Try.prog W 0 (fun _ => true) true 41 (.slice A len cap) d p) :
    ∃ l, (RA W (· < W.heap.size) A len l ∧ ∀ a ∈ l, I64 a.kind ∧ I64 a.i ∧ I64 a.k) ∧ len ≤ cap ∧ cap ≤ 9223372036854775807 := by
  obtain ⟨fuel, hf⟩ := h
  obtain ⟨l, h1, h2, h3, h4, _⟩ := open_flat (f := av) (R := fun a => AcR W (· < W.heap.size) a ∧ I64 a.kind ∧ I64 a.i ∧ I64 a.k) (s := 4) Try.underlying41 (by kernel_rfl) (by decide) av_length act_el (show DataW.trod enc Try.prog W 0 (fun _ => true) true fuel 41 [.slice A len cap] = some (d, p) from hf)
  exact ⟨l, ⟨⟨h1, fun a ha => (h2 a ha).1⟩, fun a ha => (h2 a ha).2⟩, h3, h4⟩
end
end Go.Proofs.Ytcidmlpjobdakaa
