/- The contracts of package frame, the fourth part: Clone at bytes, Get. -/
import Derived.Test.YtinenekbdcbcnaaDoorFrameC
import Derived.Deep.RegionHeld3
namespace Go.Proofs.YtinenekbdcbcnaaDoor
open Go.RowKit

set_option maxHeartbeats 400000 in
theorem cloneB_any (P : Nat → Prop) (ad : Addr) (n c : Nat) (bs : List (BitVec 8)) (w : World) (hb : RB w P (some ad) n bs) (hP : ∀ i, P i → i < w.heap.size) (hn : n ≤ 1099511627000) :
    Calls Tryd.prog 43 #[.slice (some ad) n c] w fun e w' => ∃ v, e = .returned v ∧ w'.ownsRow w.heap.size 5 1 v n (bytes bs) ∧ Below w.heap.size w w' := by
  have hnil := fun W (n c : Nat) => Lib.run_eql_slice_nil (P := Tryd.prog) W 23 5 (some ad) n c 0 0 Tryd.underlying23
  have hown : (w.alloc (.cells #[] 5)).ownsRow w.heap.size 5 1 (.slice (some ⟨w.heap.size, 0, none⟩) 0 0) 0 [] := World.ownsRow_made w #[] 0 (Nat.le_refl _) (by decide) rfl
  have hB : Below w.heap.size w (w.alloc (.cells #[] 5)) := (Below.refl _ _).alloc (Nat.le_refl _) _
  have hr : Reads (w.alloc (.cells #[] 5)) P 1 (some ad) n (bytes bs) := Reads.keep hb fun i hi => hB.block i (hP i hi)
  go_enter Tryd.func43, Tryd.ntmps43
  go_wp2_with (at_builtin; (refine wpList_appN _ rfl _ _ 23 rfl w.heap.size 5 (.int .u8 0) 1 1 Tryd.underlying23 infoU8 rfl (by decide) _ 0 _ hown rfl P _ n c _ hr rfl (bytes_one bs) (by omega) (by omega) (by simp) ?_); intro v1 w1 hown1 _ hb1 _)
  have R : w1.ownsRow w.heap.size 5 1 v1 n (bytes bs) := by
    rw [Nat.zero_add, List.nil_append] at hown1; exact hown1
  have hB1 := hB.trans hb1
  clear hown1 hb1 hB hr hown
  go_wp2
  go_ret
  exact ⟨_, rfl, R, hB1⟩

theorem far_two {w : World} {g b i : Nat} {u v x : Value} (h : g ≠ b) (hc : w.cell? ⟨b, i, none⟩ = some x) : ((w.setCell ⟨g, 0, none⟩ u).setCell ⟨g, 1, none⟩ v).cell? ⟨b, i, none⟩ = some x :=
  (World.cell?_setCell_far _ ⟨g, 1, none⟩ ⟨b, i, none⟩ _ h).trans ((World.cell?_setCell_far _ ⟨g, 0, none⟩ ⟨b, i, none⟩ _ h).trans hc)
theorem froz_below {B : Nat} {w w' : World} (h : Below B w w') (p : Addr) (hp : p.block < B) : w'.frozen? p = w.frozen? p := by
  unfold World.frozen?
  rw [h.block p.block hp]
theorem fresh_unfrozen (w : World) (q i : Nat) (cs : Array Value) (T : TypeId) : ((w.alloc (.cells cs T)).drewN q).frozen? ⟨w.heap.size, i, none⟩ = false := by
  rw [World.frozen?_drewN]; exact World.frozen?_alloc_at cs T _ i rfl

set_option maxHeartbeats 1600000 in
set_option maxRecDepth 100000 in
theorem get_any (A : Option Addr) (n c : Nat) (bs : List (BitVec 8)) (w : World) (ht : Tabs w) (hb : RB w (· < w.heap.size) A n bs) (hn : n ≤ 1099511627000) (hc : n ≤ c) (hc2 : c ≤ 9223372036854775807) :
    Calls Tryd.prog 31 #[.slice A n c] w fun e w' => ∃ v, e = .returned (.tuple #[.agg #[.int .i64 ((Fr.getL bs).1 : Int), v], .int .i64 ((Fr.getL bs).2.2.1 : Int), .int .i64 (Fr.getL bs).2.2.2]) ∧ w'.ownsRow w.heap.size 5 1 v (Fr.getL bs).2.1.length (bytes (Fr.getL bs).2.1) ∧ Below w.heap.size w w' := by
  obtain ⟨w0, hw0⟩ : ∃ w0, w0 = w.alloc (.cells #[.int .i64 0, .slice none 0 0] 48) := ⟨_, rfl⟩
  have k0 : Below w.heap.size w w0 := by rw [hw0]; exact (Below.refl _ _).alloc (Nat.le_refl _) _
  have z0 : w0.heap.size = w.heap.size + 1 := by rw [hw0]; simp
  have hb0 := (hb.below k0).more (Q := (· < w0.heap.size)) fun i hi => Nat.lt_of_lt_of_le hi k0.size
  have ht0 := ht.below k0 ht.size
  rcases Fr.getL_cases bs with ⟨hne, hg⟩ | ⟨he0, hl4, hx0, hL, hL9, _, hg⟩
  · rw [hg]
    have dE : (Fr.errL bs != 0) = true := by simp [hne]
    go_enter Tryd.func31, Tryd.ntmps31
    go_wp2_with fail
    rw [← hw0]
    refine (wrong_any A n c bs w0 ht0 hb0 (by omega) hc hc2).mono ?_
    rintro e w1 ⟨⟨z, rfl, _⟩, q, rfl⟩
    have c0 : (w0.drewN q).cell? ⟨w.heap.size, 0, none⟩ = some (.int .i64 0) := by rw [hw0, World.cell?_drewN, World.cell?_alloc_new]; rfl
    have c1 : (w0.drewN q).cell? ⟨w.heap.size, 1, none⟩ = some (.slice none 0 0) := by rw [hw0, World.cell?_drewN, World.cell?_alloc_new]; rfl
    have f0 : (w0.drewN q).frozen? ⟨w.heap.size, 0, none⟩ = false := by rw [hw0]; exact fresh_unfrozen w _ _ _ _
    have f1 : (w0.drewN q).frozen? ⟨w.heap.size, 1, none⟩ = false := by rw [hw0]; exact fresh_unfrozen w _ _ _ _
    have k1 := below_drewN k0 q
    have g1 : w.heap.size < (w0.drewN q).heap.size := by show w.heap.size < w0.heap.size; omega
    generalize w0.drewN q = w1 at *
    clear hne hw0
    go_wp2
    refine bodyPost_ret (v := .tuple #[.agg #[.int .i64 0, .slice none 0 0], .int .i64 0, .int .i64 (Fr.errL bs)]) ?_ rfl ?_
    · simp [results, Tryd.results31, go_sem, c0, c1]
    refine ⟨_, rfl, World.ownsRow_nil _ _ _ _, ?_⟩
    exact (k1.setCell (p := ⟨w.heap.size, 0, none⟩) (Nat.le_refl _) _).setCell (p := ⟨w.heap.size, 1, none⟩) (Nat.le_refl _) _
  · rw [hg]
    obtain ⟨x0, hx⟩ : ∃ x0, x0 = bs.getD 0 0 := ⟨_, rfl⟩
    obtain ⟨L, hLL⟩ : ∃ L, L = Fr.lenL bs := ⟨_, rfl⟩
    rw [← hx, ← hLL]
    rw [← hLL] at hL hL9
    have hbl := hb.len
    rw [hbl] at hL9 hl4
    obtain ⟨b, off, y0, rfl, hbb, hy0, _⟩ := hb.cell (k := 0) (by omega)
    have hyx : y0 = x0 := by rw [hx, List.getD, hy0]; rfl
    have hlen : ((bs.drop 4).take L).length = L := by simp; omega
    go_enter Tryd.func31, Tryd.ntmps31
    go_wp2_with fail
    rw [← hw0]
    refine (wrong_any _ n c bs w0 ht0 hb0 (by omega) hc hc2).mono ?_
    rintro e w1 ⟨⟨z, rfl, hz⟩, q, rfl⟩
    obtain rfl := (hz he0).trans (congrArg _ hLL.symm)
    rw [he0]
    have c0 : (w0.drewN q).cell? ⟨w.heap.size, 0, none⟩ = some (.int .i64 0) := by rw [hw0, World.cell?_drewN, World.cell?_alloc_new]; rfl
    have c1 : (w0.drewN q).cell? ⟨w.heap.size, 1, none⟩ = some (.slice none 0 0) := by rw [hw0, World.cell?_drewN, World.cell?_alloc_new]; rfl
    have f0 : (w0.drewN q).frozen? ⟨w.heap.size, 0, none⟩ = false := by rw [hw0]; exact fresh_unfrozen w _ _ _ _
    have f1 : (w0.drewN q).frozen? ⟨w.heap.size, 1, none⟩ = false := by rw [hw0]; exact fresh_unfrozen w _ _ _ _
    have k1 := below_drewN k0 q
    have g1 : w.heap.size < (w0.drewN q).heap.size := by show w.heap.size < w0.heap.size; omega
    have hb1 : RB (w0.drewN q) (· < (w0.drewN q).heap.size) (some ⟨b, off, none⟩) n bs := hb0
    generalize w0.drewN q = w1 at *
    have h0 : ∀ W, Below w1.heap.size w1 W → W.cell? ⟨b, off, none⟩ = some (.int .u8 (x0.toNat : Int)) ∧ W.cell? ⟨w.heap.size, 0, none⟩ = some (.int .i64 0) ∧ W.cell? ⟨w.heap.size, 1, none⟩ = some (.slice none 0 0) ∧ W.frozen? ⟨w.heap.size, 0, none⟩ = false ∧ W.frozen? ⟨w.heap.size, 1, none⟩ = false := by
      intro W h
      refine ⟨?_, (h.cell (p := ⟨w.heap.size, 0, none⟩) g1).trans c0, (h.cell (p := ⟨w.heap.size, 1, none⟩) g1).trans c1, (froz_below h _ g1).trans f0, (froz_below h _ g1).trans f1⟩
      obtain ⟨_, _, y, hA, _, hy, hcy⟩ := (hb1.below h).cell (k := 0) (by omega)
      cases hA
      rw [hy0] at hy
      cases hy
      rw [← hyx]
      exact hcy
    have hr : ∀ W, Below w1.heap.size w1 W → RB W (· < w1.heap.size) (some ⟨b, off + 4, none⟩) L ((bs.drop 4).take L) := fun W h =>
      ((hb1.below h).drop (k := 4) (by omega) (some ⟨b, off + 4, none⟩) (fun _ => rfl)).take (by omega)
    have hT1 : ∀ W, Below w1.heap.size w1 W → Calls Tryd.prog 43 #[.slice (some ⟨b, off + 4, none⟩) L (c - 4)] W fun e w' => ∃ A' c', e = .returned (.slice A' L c') ∧ w'.ownsRow w1.heap.size 5 1 (.slice A' L c') L (bytes ((bs.drop 4).take L)) ∧ Below w1.heap.size w1 w' := fun W h => by
      refine (cloneB_any _ ⟨b, off + 4, none⟩ L (c - 4) _ W (hr W h) (fun i hi => Nat.lt_of_lt_of_le hi h.size) (by omega)).mono ?_
      rintro e w' ⟨v, rfl, h2, h3⟩
      obtain ⟨A', c', rfl, _⟩ := own_form h2
      exact ⟨A', c', rfl, own_base h2 h.size, next_below h h3⟩
    have T1 := Lib.hid hT1
    clear hT1
    have hbg : w.heap.size ≠ b := fun e => by rw [← e] at hbb; exact Nat.lt_irrefl _ hbb
    have G0 : Below w1.heap.size w1 w1 := Below.refl _ _
    have D := Lib.hid h0
    have HLEN := Lib.hid hlen
    have HX := Lib.hid hx
    have hn0 : (0 : Int) < (n : Int) := by omega
    have HTN := Lib.hid (show ((4 : Int) + (L : Int)).toNat - 4 = L from by omega)
    have hn00 : 0 < n := by omega
    have hn01 : (0 : Int) ≤ (0 : Int) := Int.le_refl _
    have hw4 : IntKind.i64.wrap (4 + (L : Int)) = 4 + (L : Int) := IntWalk.i64_in _ (by omega)
    have hw9 : IntKind.i64.wrap (4 + (L : Int) + 5) = 4 + (L : Int) + 5 := IntWalk.i64_in _ (by omega)
    have hi4 : (4 : Int) ≤ 4 + (L : Int) := by omega
    have hi5 : 4 + (L : Int) ≤ (c : Int) := by omega
    have hc4 : ¬ c = 4 := by omega
    have hwx : IntKind.i64.wrap (x0.toNat : Int) = (x0.toNat : Int) := IntWalk.i64_in _ (by have := x0.isLt; omega)
    have hL0 : (0 : Int) ≤ (L : Int) := by omega
    clear h0 hr hb1 hb0 hb hx hLL hlen c0 c1 hy0 hyx hw0 hbl hz he0
    go_wp2
    go_region_held3 (fun w' => w'.cell? ⟨b, off, none⟩ = some (.int .u8 (x0.toNat : Int)))
      (first | exact (D.out _ (by assumption)).1 | exact (D.out _ (Below.drew (by assumption))).1 | exact far_two hbg (D.out _ (by assumption)).1)
      (first
        | (go_at_call 43; rw [HTN.out]; with_reducible refine Calls.mono (T1.out _ ?_) ?_; (first | assumption | exact Below.drew (by assumption)); rintro e w' ⟨A', c', rfl, hO, hG⟩; obtain ⟨_, q0, q1, q2, q3⟩ := D.out w' hG))
    have hO2 := ownsRow_setCell_below (ownsRow_setCell_below hO (a := ⟨w.heap.size, 0, none⟩) g1 (.int .i64 (x0.toNat : Int))) (a := ⟨w.heap.size, 1, none⟩) g1 (.slice A' L c')
    have k2 : Below w.heap.size w ((w'.setCell ⟨w.heap.size, 0, none⟩ (.int .i64 (x0.toNat : Int))).setCell ⟨w.heap.size, 1, none⟩ (.slice A' L c')) :=
      ((next_below k1 hG).setCell (p := ⟨w.heap.size, 0, none⟩) (Nat.le_refl _) _).setCell (p := ⟨w.heap.size, 1, none⟩) (Nat.le_refl _) _
    have r0 : ((w'.setCell ⟨w.heap.size, 0, none⟩ (.int .i64 (x0.toNat : Int))).setCell ⟨w.heap.size, 1, none⟩ (.slice A' L c')).cell? ⟨w.heap.size, 0, none⟩ = some (.int .i64 (x0.toNat : Int)) :=
      (World.cell?_setCell_other _ _ _ _ (by simp)).trans (World.cell?_setCell_same _ _ _ q0)
    have r1 : ((w'.setCell ⟨w.heap.size, 0, none⟩ (.int .i64 (x0.toNat : Int))).setCell ⟨w.heap.size, 1, none⟩ (.slice A' L c')).cell? ⟨w.heap.size, 1, none⟩ = some (.slice A' L c') :=
      World.cell?_setCell_same _ _ _ ((World.cell?_setCell_other _ _ _ _ (by simp)).trans q1)
    generalize (w'.setCell ⟨w.heap.size, 0, none⟩ (.int .i64 (x0.toNat : Int))).setCell ⟨w.heap.size, 1, none⟩ (.slice A' L c') = w2 at *
    go_wp2
    refine bodyPost_ret (v := .tuple #[.agg #[.int .i64 (x0.toNat : Int), .slice A' L c'], .int .i64 (4 + (L : Int) + 5), .int .i64 0]) ?_ rfl ?_
    · simp [results, Tryd.results31, go_sem, r0, r1]
    have hL9' : (4 + (L : Int) + 5) = ((L + 9 : Nat) : Int) := by omega
    refine ⟨_, by rw [hL9'], ?_, k2⟩
    show w2.ownsRow _ _ _ _ ((bs.drop 4).take L).length _
    rw [HLEN.out]
    exact own_base hO2 k1.size
end Go.Proofs.YtinenekbdcbcnaaDoor
