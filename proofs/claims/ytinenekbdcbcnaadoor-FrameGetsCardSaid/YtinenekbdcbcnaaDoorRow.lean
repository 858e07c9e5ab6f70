/- What the rows of this seat share: the tables that they list, the world of the witness, how arguments are opened. -/
import Derived.Test.YtinenekbdcbcnaaDoorCrcSum
import Derived.Test.YtinenekbdcbcnaaDoorCards
import Derived.Test.YtinenekbdcbcnaaDoorTie
import Derived.Deep.DeepHandedRow
import Derived.Lib.LaidTab
import Derived.ChangeOld
namespace Go.Proofs.YtinenekbdcbcnaaDoor
open Go.ChangeShapes Go.WideShapes Go.ChangeAt Go.RowKit

theorem own : ownKnob Tryd.prog.godebug = none := by kernel_rfl
theorem laidOut : laidOutB Tryd.prog = true := by kernel_rfl
theorem gLower : Tryd.prog.globalNamed "quayside/crc.lower" = some 0 := by kernel_rfl
theorem gUpper : Tryd.prog.globalNamed "quayside/crc.upper" = some 1 := by kernel_rfl
theorem gLowerType : (Tryd.prog.globals[0]?).map (·.type) = some 62 := by kernel_rfl
theorem gUpperType : (Tryd.prog.globals[1]?).map (·.type) = some 62 := by kernel_rfl
theorem cellsTab : Tryd.prog.cellsOf 62 = 16 := by kernel_rfl
theorem cellsU32 : Tryd.prog.cellsOf 22 = 1 := by kernel_rfl
def lowZ : List Int := [0, 1996959894, 3993919788, 2567524794, 124634137, 1886057615, 3915621685, 2657392035, 249268274, 2044508324, 3772115230, 2547177864, 162941995, 2125561021, 3887607047, 2428444049]
def uppZ : List Int := [0, 498536548, 997073096, 651767980, 1994146192, 1802195444, 1303535960, 1342533948, 3988292384, 4027552580, 3604390888, 3412177804, 2607071920, 2262029012, 2685067896, 3183342108]
theorem lowZ_eq : ∀ i, i < 16 → lowZ.getD i 0 = ((CrcM.lower.getD i 0).toNat : Int) := by decide +kernel
theorem uppZ_eq : ∀ i, i < 16 → uppZ.getD i 0 = ((CrcM.upper.getD i 0).toNat : Int) := by decide +kernel

/-- WHAT THE ROWS' LIST GIVES: the tables' cells. -/
theorem tabs_of {W : World} (h : laidMetH Tryd.prog [("quayside/crc.lower", Rows.laid_quayside_crc_lower), ("quayside/crc.upper", Rows.laid_quayside_crc_upper)] W) : Tabs W := by
  have h1 : Lib.TabIs Tryd.prog W "quayside/crc.lower" .u32 lowZ :=
    Lib.tabIs_of_head (rest := [("quayside/crc.upper", Rows.laid_quayside_crc_upper)]) gLower gLowerType Tryd.underlying62 Tryd.underlying22 cellsU32 cellsTab h
  have h2 : Lib.TabIs Tryd.prog W "quayside/crc.upper" .u32 uppZ :=
    Lib.tabIs_of_head (rest := []) gUpper gUpperType Tryd.underlying62 Tryd.underlying22 cellsU32 cellsTab (laidMetH.filter (fun x => x.1 == "quayside/crc.upper") h)
  intro i hi
  have c1 := h1.cell gLower i hi
  have c2 := h2.cell gUpper i hi
  rw [lowZ_eq i hi] at c1
  rw [uppZ_eq i hi] at c2
  exact ⟨c1, c2⟩

/-- A WORLD FOR THE WITNESS: the settled one, the tables holding what their initialisers lay. -/
def setTab (zs : List Int) : Obj → Obj
  | .cells _ t frozen => .cells (zs.map (Value.int .u32)).toArray t frozen
  | o => o
noncomputable def laidWorld (os : Os) : World :=
  { World.holding Tryd.prog os ⟨#[], #[], []⟩ with heap := ((World.holding Tryd.prog os ⟨#[], #[], []⟩).heap.modify 0 (setTab lowZ)).modify 1 (setTab uppZ) }

theorem u32_of_wf {a : Int} (h : (Lit.int .u32 a).wf = true) : ∃ s : BitVec 32, a = (s.toNat : Int) := by
  have hb : 0 ≤ a ∧ a ≤ 4294967295 := by simpa [Lit.wf, IntKind.min, IntKind.max, IntKind.signed, IntKind.bits] using h
  refine ⟨BitVec.ofNat 32 a.toNat, ?_⟩
  rw [BitVec.toNat_ofNat]; omega
theorem u8_of_wf {a : Int} (h : (Lit.int .u8 a).wf = true) : ∃ s : BitVec 8, a = (s.toNat : Int) := by
  have hb : 0 ≤ a ∧ a ≤ 255 := by simpa [Lit.wf, IntKind.min, IntKind.max, IntKind.signed, IntKind.bits] using h
  refine ⟨BitVec.ofNat 8 a.toNat, ?_⟩
  rw [BitVec.toNat_ofNat]; omega
theorem i64_of_wf {a : Int} (h : (Lit.int .i64 a).wf = true) : -9223372036854775808 ≤ a ∧ a ≤ 9223372036854775807 := by
  simpa [Lit.wf, IntKind.min, IntKind.max, IntKind.signed, IntKind.bits] using h
theorem bits_of_wf : ∀ {zs : List Int}, (∀ n ∈ zs, (Lit.int .u8 n).wf = true) → ∃ bs : List (BitVec 8), zs = bs.map fun x => (x.toNat : Int)
  | [], _ => ⟨[], rfl⟩
  | z :: zs, h => by
    obtain ⟨x, hx⟩ := u8_of_wf (h z List.mem_cons_self)
    obtain ⟨bs, hb⟩ := bits_of_wf (zs := zs) fun n hn => h n (List.mem_cons_of_mem _ hn)
    exact ⟨x :: bs, by rw [hx, hb]; rfl⟩

/-- Cells of integers that came in, as 'Reads' has them. -/
theorem reads_in {W : World} {a : Addr} {len cap : Nat} {k : IntKind} {zs : List Int} (hb : 0 < len → a.block < W.heap.size) (hl : len ≤ cap) (hz : zs.length = cap) (hc : ∀ i, i < zs.length → W.cell? (a.add i) = some (.int k (zs.getD i 0))) :
    Reads W (· < W.heap.size) 1 (some a) len ((zs.take len).map (Value.int k)) := by
  refine ⟨by simp; omega, fun hn => ?_⟩
  obtain ⟨b, off, spot⟩ := a
  have hspot : spot = none := by
    have := hc 0 (by omega)
    simpa [Addr.add] using World.cell?_spot this
  subst hspot
  refine ⟨b, off, rfl, hb hn, fun j u hu => ?_⟩
  have hj : j < len := by
    have := (List.getElem?_eq_some_iff.1 hu).1
    simp at this; omega
  have h1 := hc j (by omega)
  have h2 : ((⟨b, off, none⟩ : Addr).add j) = ⟨b, off + j, none⟩ := by unfold Addr.add; split <;> simp_all
  rw [h2] at h1
  rw [h1]
  have h3 : ((zs.take len).map (Value.int k))[j]? = some (.int k (zs.getD j 0)) := by
    simp [List.getElem?_take, hj, List.getElem?_eq_getElem (show j < zs.length by omega), List.getD]
  rw [h3] at hu
  exact hu

section
variable {H : Type} {enc : TypeId × Value → H} {W : World}
theorem bytes_in {A : Option Addr} {len cap : Nat} {d : DataW H} {p : List MemPlace} (h : DataW.Trod enc Tryd.prog W 0 (fun _ => true) true 23 (.slice A len cap) d p) :
    ∃ bs, RB W (· < W.heap.size) A len bs ∧ len ≤ cap ∧ cap ≤ 9223372036854775807 := by
  obtain ⟨fuel, hf⟩ := h
  rcases open_ints Tryd.underlying23 Tryd.underlying5 (by kernel_rfl) hf with ⟨hcs, _⟩ | ⟨x, l, c, zs, hcs, _, hl, hm, hz, _, hcell, hwz⟩
  · simp [Value.cells] at hcs
    obtain ⟨rfl, rfl, rfl⟩ := hcs
    exact ⟨[], RB.nil _ _ _, Nat.le_refl _, by decide⟩
  · simp [Value.cells] at hcs
    obtain ⟨rfl, rfl, rfl⟩ := hcs
    have hz' : zs.length = cap := by simpa using hz
    obtain ⟨bs, hbs⟩ := bits_of_wf (zs := zs) hwz
    refine ⟨bs.take len, ?_, hl, by unfold maxLen at hm; exact hm⟩
    have hr := reads_in (k := .u8) (a := x) (fun h0 => World.block_lt_of_cell? _ _ (by have := hcell 0 (by omega); simpa [Addr.add] using this)) hl hz' hcell
    unfold RB bytes
    have e : (zs.take len).map (Value.int .u8) = (bs.take len).map B8 := by
      rw [hbs, ← List.map_take, List.map_map]; rfl
    rw [← e]; exact hr
theorem ints_in {A : Option Addr} {len cap : Nat} {d : DataW H} {p : List MemPlace} (h : DataW.Trod enc Tryd.prog W 0 (fun _ => true) true 30 (.slice A len cap) d p) :
    ∃ zs, RI W (· < W.heap.size) A len zs ∧ len ≤ cap ∧ cap ≤ 9223372036854775807 := by
  obtain ⟨fuel, hf⟩ := h
  rcases open_ints Tryd.underlying30 Tryd.underlying3 (by kernel_rfl) hf with ⟨hcs, _⟩ | ⟨x, l, c, zs, hcs, _, hl, hm, hz, _, hcell, hwz⟩
  · simp [Value.cells] at hcs
    obtain ⟨rfl, rfl, rfl⟩ := hcs
    exact ⟨[], RI.nil _ _ _, Nat.le_refl _, by decide⟩
  · simp [Value.cells] at hcs
    obtain ⟨rfl, rfl, rfl⟩ := hcs
    have hz' : zs.length = cap := by simpa using hz
    exact ⟨zs.take len, ⟨reads_in (k := .i64) (a := x) (fun h0 => World.block_lt_of_cell? _ _ (by have := hcell 0 (by omega); simpa [Addr.add] using this)) hl hz' hcell,
      fun z hz2 => i64_of_wf (hwz z (List.mem_of_mem_take hz2))⟩, hl, by unfold maxLen at hm; exact hm⟩
end
end Go.Proofs.YtinenekbdcbcnaaDoor
