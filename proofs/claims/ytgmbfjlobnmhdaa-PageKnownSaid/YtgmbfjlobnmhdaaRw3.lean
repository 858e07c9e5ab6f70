/- SpoilRows; Rising; Pick. -/
import Derived.Test.YtgmbfjlobnmhdaaRw2
namespace Go.Proofs.Ytgmbfjlobnmhdaa
open Go.RowKit

theorem set_heap {w : World} {g : Nat} {t : TypeId} {cs : Array Value} {fr : Nat × Nat} (h : w.heap[g]? = some (.cells cs t fr)) (i : Nat) (u : Value) : (w.setCell ⟨g, i, none⟩ u).heap[g]? = some (.cells (cs.setIfInBounds i u) t fr) := by
  simp [World.setCell, Array.getElem?_modify, h]
theorem set_grown {a w : World} {g : Nat} (h : a.grownBy w (some g)) (i : Nat) (u : Value) : a.grownBy (w.setCell ⟨g, i, none⟩ u) (some g) :=
  ⟨h.os, h.tape, h.output, by simpa [World.setCell] using h.size, fun k hk hne => (Below.heap_setCell w ⟨g, i, none⟩ u k (fun e => hne (by rw [e]))).trans (h.block k hk hne)⟩
theorem only_of_below {a w w' : World} {row : Option Nat} (h : a.grownBy w row) (hb : Below w.heap.size w w') : a.grownBy w' row :=
  ⟨hb.os.trans h.os, hb.tape.trans h.tape, hb.output.trans h.output, Nat.le_trans h.size hb.size, fun k hk hne => (hb.block k (Nat.lt_of_lt_of_le hk h.size)).trans (h.block k hk hne)⟩

set_option maxHeartbeats 800000 in
theorem spoilRows_row (g n c : Nat) (cur : Array Value) (w : World) (hg : w.heap[g]? = some (.cells cur 34 (0, 0))) (hs : cur.size = c * 3) (hnc : n ≤ c) (hn : n ≤ 1099511627000) :
    Calls Try.prog 16 #[.slice (some ⟨g, 0, none⟩) n c] w fun e w' => (∃ v, e = .returned v) ∧ w.grownBy w' (some g) := by
  go_enter Try.func16, Try.ntmps16
  go_wp2_with fail
  go_loopw [2] (fun i wr => ∃ (k : Nat) (cu : Array Value), k ≤ n ∧ i = .int .i64 k ∧ wr.heap[g]? = some (.cells cu 34 (0, 0)) ∧ cu.size = c * 3 ∧ w.grownBy wr (some g)) (fun i _ => n - (intOf i).toNat)
  case atStart => exact ⟨0, cur, by omega, rfl, hg, hs, World.grownBy.refl w _⟩
  case round =>
    obtain ⟨k, cu, hk, rfl, hgr, hcs, hgw⟩ := hrel
    by_cases hlt : k < n
    · go_wp2_with fail
      refine (markRows_any (k + 7) wr (by omega) (by omega)).mono ?_
      rintro e w2 ⟨rfl, hB⟩
      have hgr2 : w2.heap[g]? = some (.cells cu 34 (0, 0)) := (hB.block g (Array.getElem?_eq_some_iff.1 hgr).1).trans hgr
      have hgw2 := only_of_below hgw hB
      clear hB hgr hgw
      have hcell : ∀ j, k * 3 + j < c * 3 → w2.cell? ⟨g, k * 3 + j, none⟩ = some (cu.getD (k * 3 + j) undef) := fun j hj => by
        rw [cell_of_row w2 g _ cu 34 (0, 0) hgr2, Array.getElem?_eq_getElem (by omega)]
        simp [Array.getD, show k * 3 + j < cu.size from by omega]
      have c0 : w2.cell? ⟨g, k * 3, none⟩ = some (cu.getD (k * 3) undef) := hcell 0 (by omega)
      have c1 : w2.cell? ⟨g, k * 3 + 1, none⟩ = some (cu.getD (k * 3 + 1) undef) := hcell 1 (by omega)
      have c2 : w2.cell? ⟨g, k * 3 + 2, none⟩ = some (cu.getD (k * 3 + 2) undef) := hcell 2 (by omega)
      have hfr : ∀ j, w2.frozen? ⟨g, j, none⟩ = false := fun j => by simp [World.frozen?, hgr2]
      have d0 := hfr (k * 3)
      have d1 := hfr (k * 3 + 1)
      have d2 := hfr (k * 3 + 2)
      generalize cu.getD (k * 3) undef = o0 at c0
      generalize cu.getD (k * 3 + 1) undef = o1 at c1
      generalize cu.getD (k * 3 + 2) undef = o2 at c2
      have HG := Lib.hid hgr2
      have HC := Lib.hid hcs
      clear hgr2 hcs hcell hfr
      go_wp2
      trace_state
      go_roundw
      case rel => exact ⟨k + 1, _, by omega, by go_num, set_heap (set_heap (set_heap HG.out _ _) _ _) _ _, by simp only [Array.size_setIfInBounds]; exact HC.out, set_grown (set_grown (set_grown hgw2 _ _) _ _) _ _⟩
      case measure => simp [intOf]; omega
    · go_wp2
      go_end0
      exact ⟨⟨_, rfl⟩, hgw⟩
theorem spoilRows_none (A : Option Addr) (c : Nat) (w : World) :
    Calls Try.prog 16 #[.slice A 0 c] w fun e w' => (∃ v, e = .returned v) ∧ w' = w := by
  go_enter Try.func16, Try.ntmps16
  go_wp2
  refine wp_loop_rounds 1 ?_
  rw [rounds_succ]
  go_wp2
  go_end0
  exact ⟨⟨_, rfl⟩, rfl⟩
theorem spoilRows_own (base : Nat) (v : Value) (n : Nat) (xs : List Value) (w : World) (h : w.ownsRow base 34 3 v n xs) (hn : n ≤ 1099511627000) :
    Calls Try.prog 16 #[v] w fun e w' => (∃ r, e = .returned r) ∧ w.grownBy w' v.ownBlock := by
  rcases h.2 with ⟨rfl, rfl⟩ | ⟨g, cap, cur, rfl, _, hg, hnc, _, hs, _⟩
  · exact (spoilRows_none none 0 w).mono fun _ _ ⟨h1, h2⟩ => ⟨h1, by rw [h2]; exact World.grownBy.refl w _⟩
  · exact spoilRows_row g n cap cur w hg hs hnc hn
end Go.Proofs.Ytgmbfjlobnmhdaa
