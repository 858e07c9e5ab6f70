/- A frame by value, as an argument. -/
import Derived.Test.YtinenekbdcbcnaaDoorRow
import Derived.Lib.SmallJoins
namespace Go.Proofs.YtinenekbdcbcnaaDoor
open Go.ChangeShapes Go.WideShapes Go.ChangeAt Go.RowKit Go.Deep Go.Joins

theorem frame_in {H : Type} {enc : TypeId × Value → H} {W : World} {r : Reach} {b0 : Nat} {v : Value} {d : DataW H} {p : List MemPlace} (hv : Value.okWide Tryd.prog W r b0 48 v)
    (h : DataW.Trod enc Tryd.prog W 0 (fun _ => true) true 48 v d p) :
    ∃ (a : Int) (A : Option Addr) (len cap : Nat) (bs : List (BitVec 8)), v = .agg #[.int .i64 a, .slice A len cap] ∧ (-9223372036854775808 ≤ a ∧ a ≤ 9223372036854775807) ∧ RB W (· < W.heap.size) A len bs ∧ len ≤ cap ∧ cap ≤ 9223372036854775807 := by
  obtain ⟨v0, v1, y0, y1, n, rfl, _, _, h0, h1⟩ := open_agg2 Tryd.underlying48 (by kernel_rfl) (by kernel_rfl) hv h
  obtain ⟨z0, e0, _, w0⟩ := DataW.trod_int Tryd.underlying3 h0
  simp at e0
  subst e0
  have hs : ∃ A len cap, v1 = .slice A len cap := by
    obtain ⟨A, len, cap, e⟩ := slice_form Tryd.underlying23 h1
    exact ⟨A, len, cap, by simpa using e⟩
  obtain ⟨A, len, cap, rfl⟩ := hs
  obtain ⟨bs, hb, hl, hm⟩ := bytes_in (W := W) (A := A) (len := len) (cap := cap) (d := y1.1) (p := y1.2) ⟨n, h1⟩
  exact ⟨z0, A, len, cap, bs, rfl, i64_of_wf w0, hb, hl, hm⟩
end Go.Proofs.YtinenekbdcbcnaaDoor
