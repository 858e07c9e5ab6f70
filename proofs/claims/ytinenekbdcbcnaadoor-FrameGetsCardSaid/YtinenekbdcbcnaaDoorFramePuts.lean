/- The walk of the statement FramePuts. -/
import Derived.Test.YtinenekbdcbcnaaDoorFrameP
import Derived.Deep.CutRange
namespace Go.Proofs.YtinenekbdcbcnaaDoor
open Go.RowKit

theorem alloc_ok {w W : World} (h : Below w.heap.size w W) (o : Obj) : Below w.heap.size w (W.alloc o) := h.alloc h.size o
theorem far_both {w : World} {g b : Nat} {u v x y : Value} (h : g ≠ b) (hc : w.cell? ⟨b, 0, none⟩ = some x ∧ w.cell? ⟨b, 1, none⟩ = some y) :
    ((w.setCell ⟨g, 0, none⟩ u).setCell ⟨g, 1, none⟩ v).cell? ⟨b, 0, none⟩ = some x ∧ ((w.setCell ⟨g, 0, none⟩ u).setCell ⟨g, 1, none⟩ v).cell? ⟨b, 1, none⟩ = some y := ⟨far_two h hc.1, far_two h hc.2⟩
theorem fresh0 (w w' : World) (x y : Value) (T : TypeId) (h : Below (w.alloc (.cells #[x, y] T)).drew.heap.size (w.alloc (.cells #[x, y] T)).drew w') : w'.cell? ⟨w.heap.size, 0, none⟩ = some x :=
  (h.cell (p := ⟨w.heap.size, 0, none⟩) (by show w.heap.size < (w.alloc _).heap.size; simp)).trans (World.cell?_alloc_at _ _ _ _ rfl)
theorem fresh1 (w w' : World) (x y : Value) (T : TypeId) (h : Below (w.alloc (.cells #[x, y] T)).drew.heap.size (w.alloc (.cells #[x, y] T)).drew w') : w'.cell? ⟨w.heap.size, 1, none⟩ = some y :=
  (h.cell (p := ⟨w.heap.size, 1, none⟩) (by show w.heap.size < (w.alloc _).heap.size; simp)).trans (World.cell?_alloc_at _ _ _ _ rfl)
theorem freshf (w w' : World) (cs : Array Value) (T : TypeId) (h : Below (w.alloc (.cells cs T)).drew.heap.size (w.alloc (.cells cs T)).drew w') (i : Nat) : w'.frozen? ⟨w.heap.size, i, none⟩ = false :=
  (froz_below h ⟨w.heap.size, i, none⟩ (by show w.heap.size < (w.alloc _).heap.size; simp)).trans (World.frozen?_alloc_at cs T _ i rfl)

theorem sameBytes_yes (P Q : Nat → Prop) (A : Option Addr) (n c : Nat) (xs : List (BitVec 8)) (B : Option Addr) (m d : Nat) (w : World) (ha : RB w P A n xs) (hb : RB w Q B m xs) (hn : n ≤ 9223372036854775807) :
    Calls Tryd.prog 35 #[.slice A n c, .slice B m d] w fun e w' => e = .returned (.bool true) ∧ ∃ q, w' = w.drewN q :=
  (sameBytes_any P Q A n c xs B m d xs w ha hb hn).mono fun _ _ ⟨h, q, h2⟩ => ⟨by rw [h]; simp, q, h2⟩

set_option maxHeartbeats 3200000 in
set_option maxRecDepth 100000 in
theorem puts_walk (kf : Int) (A : Option Addr) (n c : Nat) (bs : List (BitVec 8)) (w : World) (ht : Tabs w) (hkf : -9223372036854775808 ≤ kf ∧ kf ≤ 9223372036854775807) (hb : RB w (· < w.heap.size) A n bs) :
    Calls Tryd.prog 11 #[.agg #[.int .i64 kf, .slice A n c]] w fun e w' => e = .returned (.bool true) ∧ Below w.heap.size w w' := by
  obtain ⟨w1, hw1⟩ : ∃ w1, w1 = w.alloc (.cells #[.int .i64 kf, .slice A n c] 48) := ⟨_, rfl⟩
  have k1 : Below w.heap.size w w1 := by rw [hw1]; exact (Below.refl _ _).alloc (Nat.le_refl _) _
  have z1 : w.heap.size < w1.heap.size := by rw [hw1]; simp
  have hc0 : ∀ W, Below w1.heap.size w1 W → W.cell? ⟨w.heap.size, 0, none⟩ = some (.int .i64 kf) ∧ W.cell? ⟨w.heap.size, 1, none⟩ = some (.slice A n c) := fun W h =>
    ⟨(h.cell (p := ⟨w.heap.size, 0, none⟩) z1).trans (by rw [hw1, World.cell?_alloc_new]; rfl), (h.cell (p := ⟨w.heap.size, 1, none⟩) z1).trans (by rw [hw1, World.cell?_alloc_new]; rfl)⟩
  have C := Lib.hid hc0
  clear hc0
  by_cases hbig : 8192 < n
  · have hbg : decide (8192 < (n : Int)) = true := by simp; omega
    go_enter Tryd.func11, Tryd.ntmps11
    go_wp2_with fail
    rw [← hw1]
    refine (shown_any w1 (ht.below k1 ht.size)).mono ?_
    rintro e w2 ⟨rfl, hB⟩
    have k2 := next_below k1 hB
    go_wp2
    go_ret
    exact ⟨rfl, k2⟩
  have hbg : decide (8192 < (n : Int)) = false := by simp; omega
  have hb1 := (hb.below k1).more (Q := (· < w1.heap.size)) fun i hi => Nat.lt_of_lt_of_le hi k1.size
  have hT1 : ∀ W, Below w1.heap.size w1 W → Calls Tryd.prog 25 #[.slice A n c] W fun e w' => ∃ A' c', e = .returned (.slice A' n c') ∧ n ≤ c' ∧ c' ≤ 9223372036854775807 ∧ RB w' (fun i => W.heap.size ≤ i ∧ i < w'.heap.size) A' n bs ∧ Below W.heap.size W w' ∧ Below w1.heap.size w1 w' := fun W h => by
    refine (copyBytes_any _ A n c bs W (hb1.below h) (fun i hi => Nat.lt_of_lt_of_le hi h.size) (by omega)).mono ?_
    rintro e w' ⟨v, rfl, h2, h3⟩
    obtain ⟨A', c', rfl, h4, h5, _⟩ := own_form h2
    exact ⟨A', c', rfl, h4, h5, own_reads h2, h3, next_below h h3⟩
  have T1 := Lib.hid hT1
  clear hT1
  have hgg : w1.heap.size ≠ w.heap.size := by omega
  have G0 : Below w1.heap.size w1 w1 := Below.refl _ _
  go_enter Tryd.func11, Tryd.ntmps11
  go_upto_region 3 with fail
  rw [← hw1]
  clear hw1
  go_cut [3] from 14 to 20 (fun s3 wx => ∃ (g3 : Nat) (A' : Option Addr) (c' : Nat), s3 = .pointer (some ⟨g3, 0, none⟩) ∧ n ≤ c' ∧ c' ≤ 9223372036854775807 ∧ wx.cell? ⟨g3, 0, none⟩ = some (.int .i64 kf) ∧ wx.cell? ⟨g3, 1, none⟩ = some (.slice A' n c') ∧ RB wx (· < wx.heap.size) A' n bs ∧ Below w1.heap.size w1 wx)
  case first =>
    go_region_held3 (fun w' => w'.cell? ⟨w.heap.size, 0, none⟩ = some (.int .i64 kf) ∧ w'.cell? ⟨w.heap.size, 1, none⟩ = some (.slice A n c))
      (first | exact C.out _ (by assumption) | exact C.out _ (Below.drew (by assumption)) | exact C.out _ (alloc_ok (by assumption) _) | exact C.out _ (Below.drew (alloc_ok (by assumption) _)) | exact C.out _ (alloc_ok (Below.drew (by assumption)) _) | exact far_both hgg (C.out _ (by assumption)))
      (first
        | (go_at_call 25; with_reducible refine Calls.mono (T1.out _ ?_) ?_; (first | assumption | exact Below.drew (by assumption) | exact alloc_ok (by assumption) _ | exact Below.drew (alloc_ok (by assumption) _) | exact alloc_ok (Below.drew (by assumption)) _); rintro e w' ⟨A', c', rfl, hn1, hn2, hr, hG', hG⟩; (try (have q0 := fresh0 w1 w' _ _ _ hG'; have q1 := fresh1 w1 w' _ _ _ hG'; have q2 := freshf w1 w' _ _ hG' 0; have q3 := freshf w1 w' _ _ hG' 1))))
    · have hk : Below w'.heap.size w' (w'.alloc (.cells #[.int .i64 kf, .slice A' n c'] 48)) := (Below.refl _ _).alloc (Nat.le_refl _) _
      have p0 : (w'.alloc (.cells #[.int .i64 kf, .slice A' n c'] 48)).cell? ⟨w'.heap.size, 0, none⟩ = some (.int .i64 kf) := World.cell?_alloc_at _ _ _ _ rfl
      have p1 : (w'.alloc (.cells #[.int .i64 kf, .slice A' n c'] 48)).cell? ⟨w'.heap.size, 1, none⟩ = some (.slice A' n c') := World.cell?_alloc_at _ _ _ _ rfl
      have hr2 : RB (w'.alloc (.cells #[.int .i64 kf, .slice A' n c'] 48)) (· < (w'.alloc (.cells #[.int .i64 kf, .slice A' n c'] 48)).heap.size) A' n bs :=
        ((hr.more (Q := (· < w'.heap.size)) fun _ h => h.2).below hk).more fun i hi => Nat.lt_of_lt_of_le hi hk.size
      have hB2 := next_below hG hk
      go_wp2
      go_meet
      case rel => exact ⟨w'.heap.size, A', c', rfl, hn1, hn2, p0, p1, hr2, hB2⟩
    · have p0 : ((w'.setCell ⟨w1.heap.size, 0, none⟩ (.int .i64 kf)).setCell ⟨w1.heap.size, 1, none⟩ (.slice A' n c')).cell? ⟨w1.heap.size, 0, none⟩ = some (.int .i64 kf) :=
        (World.cell?_setCell_other _ _ _ _ (by simp)).trans (World.cell?_setCell_same _ _ _ q0)
      have p1 : ((w'.setCell ⟨w1.heap.size, 0, none⟩ (.int .i64 kf)).setCell ⟨w1.heap.size, 1, none⟩ (.slice A' n c')).cell? ⟨w1.heap.size, 1, none⟩ = some (.slice A' n c') :=
        World.cell?_setCell_same _ _ _ ((World.cell?_setCell_other _ _ _ _ (by simp)).trans q1)
      have hB2 : Below w1.heap.size w1 ((w'.setCell ⟨w1.heap.size, 0, none⟩ (.int .i64 kf)).setCell ⟨w1.heap.size, 1, none⟩ (.slice A' n c')) :=
        (hG.setCell (p := ⟨w1.heap.size, 0, none⟩) (Nat.le_refl _) _).setCell (p := ⟨w1.heap.size, 1, none⟩) (Nat.le_refl _) _
      have hr2 : RB ((w'.setCell ⟨w1.heap.size, 0, none⟩ (.int .i64 kf)).setCell ⟨w1.heap.size, 1, none⟩ (.slice A' n c')) (· < ((w'.setCell ⟨w1.heap.size, 0, none⟩ (.int .i64 kf)).setCell ⟨w1.heap.size, 1, none⟩ (.slice A' n c')).heap.size) A' n bs := by
        refine (hr.keep fun i hi => ?_).more fun i hi => ?_
        · have h1 : w1.heap.size + 1 ≤ i := by have := hi.1; simp at this; exact this
          rw [Below.heap_setCell _ _ _ _ (by show i ≠ w1.heap.size; omega), Below.heap_setCell _ _ _ _ (by show i ≠ w1.heap.size; omega)]
        · simpa using hi.2
      go_wp2
      go_meet
      case rel => exact ⟨w1.heap.size, A', c', rfl, hn1, hn2, p0, p1, hr2, hB2⟩
  case rest =>
    obtain ⟨g3, A', c', rfl, hc1, hc2, q0, q1, hr, hB⟩ := hcut
    have k2 := next_below k1 hB
    have hg3 : g3 < wc.heap.size := World.block_lt_of_cell? _ _ q0
    by_cases hbad : kf < 1 ∨ 255 < kf
    · go_wp2_with fail
      refine (put_kind kf A' n c' wc hbad).mono ?_
      rintro e w3 ⟨rfl, b3⟩
      have j3 := next_below hB b3
      have k3 := next_below k2 b3
      have e0 := (C.out w3 j3).1
      have e1 := (C.out w3 j3).2
      go_wp2_with fail
      refine (refPut_kind kf A n c w3 hbad).mono ?_
      rintro e w4 ⟨rfl, b4⟩
      have j4 := next_below j3 b4
      have k4 := next_below k3 b4
      have i4 := next_below b3 b4
      clear e0 e1 j3 k3 b3 b4
      go_wp2_with fail
      refine (sameBytes_yes (fun _ => False) (fun _ => False) none 0 0 [] none 0 0 w4 (RB.nil _ _ _) (RB.nil _ _ _) (by decide)).mono ?_
      rintro e w5 ⟨rfl, q, rfl⟩
      have j5 := below_drewN j4 q
      have k5 := below_drewN k4 q
      have i5 := below_drewN i4 q
      clear j4 k4 i4
      generalize w4.drewN q = w5 at *
      go_wp2_with fail
      refine (spoilBytes_none none 0 w5).mono ?_
      rintro e w6 ⟨⟨v6, rfl⟩, rfl⟩
      have e1 := (C.out w6 j5).2
      have q1 := (i5.cell (p := ⟨g3, 1, none⟩) hg3).trans q1
      have r5 := hr.below i5
      have s5 := hb.below k5
      clear q0
      go_wp2_with fail
      refine (sameBytes_yes _ _ A' n c' bs A n c w6 r5 s5 (by omega)).mono ?_
      rintro e w7 ⟨rfl, q, rfl⟩
      have k7 := below_drewN k5 q
      clear e1 q1 r5 s5 k5 j5 i5
      generalize w6.drewN q = w7 at *
      go_wp2_with fail
      refine (shown_any w7 (ht.below k7 ht.size)).mono ?_
      rintro e w8 ⟨rfl, b8⟩
      have k8 := next_below k7 b8
      go_wp2
      go_ret
      exact ⟨rfl, k8⟩
    · obtain ⟨k, rfl⟩ : ∃ k : Nat, kf = (k : Int) := ⟨kf.toNat, by omega⟩
      go_wp2_with fail
      refine (put_ok k A' n c' bs wc (ht.below k2 ht.size) hr (by omega) (by omega) (by omega)).mono ?_
      rintro e w3 ⟨v3, rfl, o3, b3⟩
      obtain ⟨X, cx, rfl, hcx, hcx2, _⟩ := own_form o3
      have j3 := next_below hB b3
      have k3 := next_below k2 b3
      have e0 := (C.out w3 j3).1
      have e1 := (C.out w3 j3).2
      have s3 := (hb.below k3).more (Q := (· < w3.heap.size)) fun i hi => Nat.lt_of_lt_of_le hi k3.size
      go_wp2_with fail
      refine (refPut_ok k A n c bs w3 s3 (by omega) (by omega) (by omega)).mono ?_
      rintro e w4 ⟨v4, rfl, o4, b4⟩
      obtain ⟨Y, cy, rfl, hcy, hcy2, _⟩ := own_form o4
      have j4 := next_below j3 b4
      have k4 := next_below k3 b4
      have i4 := next_below b3 b4
      have o3 := own_below o3 b4
      have rx : RB w4 (· < w4.heap.size) X (n + 9) (Fr.bytesOf k bs) := (own_reads o3).more fun _ h => h.2
      have ry : RB w4 (· < w4.heap.size) Y (n + 9) (Fr.bytesOf k bs) := (own_reads o4).more fun _ h => h.2
      clear e0 e1 j3 k3 b3 b4 o4 s3
      go_wp2_with fail
      refine (sameBytes_yes _ _ X (n + 9) cx (Fr.bytesOf k bs) Y (n + 9) cy w4 rx ry (by omega)).mono ?_
      rintro e w5 ⟨rfl, q, rfl⟩
      have j5 := below_drewN j4 q
      have k5 := below_drewN k4 q
      have i5 := below_drewN i4 q
      have o5 := own_drewN o3 q
      clear j4 k4 i4 o3 rx ry
      generalize w4.drewN q = w5 at *
      go_wp2_with fail
      refine (spoilBytes_own wc.heap.size (.slice X (n + 9) cx) (n + 9) _ w5 o5 (by omega)).mono ?_
      rintro e w6 ⟨⟨v6, rfl⟩, hgr⟩
      have i6 : Below wc.heap.size wc w6 := i5.grown hgr i5.size fun k hk => (o5.lt k hk).1
      have j6 := next_below hB i6
      have k6 := next_below k2 i6
      have e1 := (C.out w6 j6).2
      have q1 := (i6.cell (p := ⟨g3, 1, none⟩) hg3).trans q1
      have r6 := hr.below i6
      have s6 := hb.below k6
      clear q0 i5 j5 k5 o5 hgr
      go_wp2_with fail
      refine (sameBytes_yes _ _ A' n c' bs A n c w6 r6 s6 (by omega)).mono ?_
      rintro e w7 ⟨rfl, q, rfl⟩
      have k7 := below_drewN k6 q
      clear e1 q1 r6 s6 k6 j6 i6
      generalize w6.drewN q = w7 at *
      go_wp2_with fail
      refine (shown_any w7 (ht.below k7 ht.size)).mono ?_
      rintro e w8 ⟨rfl, b8⟩
      have k8 := next_below k7 b8
      go_wp2
      go_ret
      exact ⟨rfl, k8⟩
end Go.Proofs.YtinenekbdcbcnaaDoor
