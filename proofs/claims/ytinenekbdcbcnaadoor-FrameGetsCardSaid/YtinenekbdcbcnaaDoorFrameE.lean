/- The contract of shown: the chapter's frame. -/
import Derived.Test.YtinenekbdcbcnaaDoorFrameD
namespace Go.Proofs.YtinenekbdcbcnaaDoor
open Go.RowKit

def F7 : List (BitVec 8) := Fr.bytesOf 7 [1#8, 2#8]
theorem F7_len : F7.length = 11 := by decide +kernel
theorem F7_take : F7.take 6 = [7#8, 0#8, 0#8, 2#8, 1#8, 2#8] := by decide +kernel
theorem F7_last : F7[10]? = some 10#8 := by decide +kernel
theorem F7_get : Fr.getL (F7 ++ [9#8]) = (7, [1#8, 2#8], 11, 0) := by decide +kernel
theorem F7_short : Fr.getL (F7.take 10) = (0, [], 0, 4) := by decide +kernel
theorem RB.lit (w : World) (bs : List (BitVec 8)) (n : Nat) (h : bs.length = n) : RB (w.alloc (.cells (bytes bs).toArray 5)) (· < (w.alloc (.cells (bytes bs).toArray 5)).heap.size) (some ⟨w.heap.size, 0, none⟩) n bs := by
  subst h
  exact (RB.new w bs 5 (0, 0)).more fun i hi => by rw [hi]; simp

set_option maxHeartbeats 1600000 in
set_option maxRecDepth 100000 in
theorem shown_any (w : World) (ht : Tabs w) : Calls Tryd.prog 32 #[] w fun e w' => e = .returned (.bool true) ∧ Below w.heap.size w w' := by
  go_enter Tryd.func32, Tryd.ntmps32
  go_wp2_with fail
  have k0 : Below w.heap.size w (w.alloc (.cells #[.int .u8 1, .int .u8 2] 5)) := (Below.refl _ _).alloc (Nat.le_refl _) _
  refine (put_ok 7 _ 2 2 [1#8, 2#8] _ (ht.alloc _) (RB.lit w [1#8, 2#8] 2 rfl) (by decide) (by decide) (by decide)).mono ?_
  rintro e w1 ⟨v, rfl, hown, hB⟩
  have k1 := next_below k0 hB
  have hown : w1.ownsRow w.heap.size 5 1 v 11 (bytes F7) := own_base hown k0.size
  obtain ⟨B, cb, rfl, hcb, hcb2, _⟩ := own_form hown
  have rb : RB w1 (· < w1.heap.size) B 11 F7 := (own_reads hown).more fun _ h => h.2
  have ht1 := ht.below k1 ht.size
  obtain ⟨b, off, x, rfl, hbb, hx, hc10⟩ := rb.cell (k := 10) (by decide)
  rw [F7_last] at hx
  cases hx
  have hc10 : w1.cell? ⟨b, off + 10, none⟩ = some (.int .u8 10) := hc10
  have z1 := k1.size
  have h11 : (11 : Int) ≤ (cb : Int) := by omega
  clear hB hown k0
  clear hown
  go_wp2_with fail
  obtain ⟨w2, hw2⟩ : ∃ w2, w2 = w1.alloc (.cells (bytes [7#8, 0#8, 0#8, 2#8, 1#8, 2#8]).toArray 5) := ⟨_, rfl⟩
  have b2 : Below w1.heap.size w1 w2 := by rw [hw2]; exact (Below.refl _ _).alloc (Nat.le_refl _) _
  have r2 : RB w2 (· < w2.heap.size) (some ⟨w1.heap.size, 0, none⟩) 6 [7#8, 0#8, 0#8, 2#8, 1#8, 2#8] := by rw [hw2]; exact RB.lit w1 _ 6 rfl
  have s2 : RB w2 (· < w1.heap.size) (some ⟨b, off, none⟩) 6 (F7.take 6) := (rb.below b2).take (by decide)
  rw [F7_take] at s2
  refine Calls.mono (show Calls Tryd.prog _ _ (w1.alloc (.cells (bytes [7#8, 0#8, 0#8, 2#8, 1#8, 2#8]).toArray 5)) _ from by rw [← hw2]; exact sameBytes_any _ _ _ 6 cb _ _ 6 6 _ w2 s2 r2 (by decide)) ?_
  rintro e w3 ⟨rfl, q, rfl⟩
  rw [show decide ([7#8, 0#8, 0#8, 2#8, 1#8, 2#8] = [7#8, 0#8, 0#8, 2#8, 1#8, 2#8]) = true from by decide]
  have b4 := below_drewN b2 q
  clear b2 r2 s2 hw2
  generalize w2.drewN q = w4 at *
  have k4 := next_below k1 b4
  have ht4 := ht.below k4 ht.size
  have rb4 := (rb.below b4).more (Q := (· < w4.heap.size)) fun i hi => Nat.lt_of_lt_of_le hi b4.size
  have hc4 := (b4.cell (p := ⟨b, off + 10, none⟩) hbb).trans hc10
  have z4 := k4.size
  clear rb hc10 b4 hbb k1 z1
  have hownE : (w4.alloc (.cells #[] 5)).ownsRow w4.heap.size 5 1 (.slice (some ⟨w4.heap.size, 0, none⟩) 0 0) 0 [] := World.ownsRow_made w4 #[] 0 (Nat.le_refl _) (by decide) rfl
  have kE : Below w4.heap.size w4 (w4.alloc (.cells #[] 5)) := (Below.refl _ _).alloc (Nat.le_refl _) _
  have rE := rb4.below kE
  go_wp2_with (first
    | (at_builtin; refine wpList_appN _ rfl (.tmp 36) (.tmp 37) 23 rfl w4.heap.size 5 (.int .u8 0) 1 1 Tryd.underlying23 infoU8 rfl (by decide) _ 0 _ hownE rfl _ _ 11 cb _ rE rfl (bytes_one _) (by decide) (by decide) (by simp) ?_; intro v5 w5 hown5 _ hb5 _)
    | (at_builtin; refine wpList_app1 w5 #[.int .u8 9] rfl (.tmp 38) (.tmp 39) 23 rfl w4.heap.size 5 (.int .u8 0) 1 1 Tryd.underlying23 infoU8 rfl (by decide) _ (0 + 11) _ hown5 rfl rfl rfl (one1 _ rfl) (by decide) (by decide) (Nat.le_trans (by simp) hb5.size) ?_; intro g6 cap6 w6 hown6 _ hb6 _ _))
  have hown6' : w6.ownsRow w4.heap.size 5 1 (.slice (some ⟨g6, 0, none⟩) 12 cap6) 12 (bytes (F7 ++ [9#8])) := by rw [bytes_append]; exact hown6
  obtain ⟨_, _, hv6, hcap, hcap2, _⟩ := own_form hown6'
  cases hv6
  have r6 : RB w6 (· < w6.heap.size) (some ⟨g6, 0, none⟩) 12 (F7 ++ [9#8]) := (own_reads hown6').more fun _ h => h.2
  have b6 : Below w4.heap.size w4 w6 := (kE.trans hb5).trans hb6
  have k6 := next_below k4 b6
  have ht6 := ht.below k6 ht.size
  clear hown6 hown6' hown5 hb5 hb6 kE rE hownE
  refine (get_any _ 12 cap6 (F7 ++ [9#8]) w6 ht6 r6 (by decide) hcap hcap2).mono ?_
  rintro e w7 ⟨v7, rfl, hown7, hB7⟩
  rw [F7_get] at hown7
  rw [F7_get]
  obtain ⟨A7, c7, rfl, _⟩ := own_form hown7
  have r7 : RB w7 (· < w7.heap.size) A7 2 [1#8, 2#8] := (own_reads hown7).more fun _ h => h.2
  have b7 := next_below b6 hB7
  have k7 := next_below k6 hB7
  clear hown7 hB7 r6 ht6 k6 b6
  obtain ⟨w8, hw8⟩ : ∃ w8, w8 = w7.alloc (.cells #[.int .i64 7, .slice A7 2 c7] 48) := ⟨_, rfl⟩
  go_wp2_with fail
  rw [← hw8]
  have b78 : Below w7.heap.size w7 w8 := by rw [hw8]; exact (Below.refl _ _).alloc (Nat.le_refl _) _
  have z78 : w7.heap.size < w8.heap.size := by rw [hw8]; simp
  have e0 : w8.cell? ⟨w7.heap.size, 0, none⟩ = some (.int .i64 7) := by rw [hw8, World.cell?_alloc_new]; rfl
  have e1 : w8.cell? ⟨w7.heap.size, 1, none⟩ = some (.slice A7 2 c7) := by rw [hw8, World.cell?_alloc_new]; rfl
  have b8 := next_below b7 b78
  have k8 := next_below k7 b78
  have r8 := (r7.below b78).more (Q := (· < w8.heap.size)) fun i hi => Nat.lt_of_lt_of_le hi b78.size
  have rb8 := ((rb4.below b8).more (Q := (· < w8.heap.size)) fun i hi => Nat.lt_of_lt_of_le hi b8.size).take (k := 10) (by decide)
  clear hw8 b7 k7 r7 b78 b8
  refine (get_any _ 10 cb (F7.take 10) w8 (ht.below k8 ht.size) rb8 (by decide) (by omega) hcb2).mono ?_
  rintro e w9 ⟨v9, rfl, hown9, hB9⟩
  rw [F7_short] at hown9
  rw [F7_short]
  obtain ⟨A9, c9, rfl, _⟩ := own_form hown9
  clear hown9
  have r9 := (r8.below hB9).more (Q := (· < w9.heap.size)) fun i hi => Nat.lt_of_lt_of_le hi hB9.size
  have k9 := next_below k8 hB9
  have e0 := (hB9.cell (p := ⟨w7.heap.size, 0, none⟩) z78).trans e0
  have e1 := (hB9.cell (p := ⟨w7.heap.size, 1, none⟩) z78).trans e1
  have z79 : w7.heap.size < w9.heap.size := Nat.lt_of_lt_of_le z78 hB9.size
  clear rb8 hB9 r8 k8 rb4 hc4
  obtain ⟨w10, hw10⟩ : ∃ w10, w10 = w9.alloc (.cells #[.int .i64 0, .slice A9 0 c9] 48) := ⟨_, rfl⟩
  have b10 : Below w9.heap.size w9 w10 := by rw [hw10]; exact (Below.refl _ _).alloc (Nat.le_refl _) _
  have z10 : w10.heap.size = w9.heap.size + 1 := by rw [hw10]; simp
  have E0 : w10.cell? ⟨w7.heap.size, 0, none⟩ = some (.int .i64 7) := (b10.cell (p := ⟨w7.heap.size, 0, none⟩) z79).trans e0
  have E1 : w10.cell? ⟨w7.heap.size, 1, none⟩ = some (.slice A7 2 c7) := (b10.cell (p := ⟨w7.heap.size, 1, none⟩) z79).trans e1
  have r10 := r9.below b10
  have k10 := next_below k9 b10
  go_wp2_with fail
  rw [← hw10, ← z10]
  obtain ⟨w11, hw11⟩ : ∃ w11, w11 = w10.alloc (.cells (bytes [1#8, 2#8]).toArray 5) := ⟨_, rfl⟩
  have b11 : Below w10.heap.size w10 w11 := by rw [hw11]; exact (Below.refl _ _).alloc (Nat.le_refl _) _
  have l11 : RB w11 (· < w11.heap.size) (some ⟨w10.heap.size, 0, none⟩) 2 [1#8, 2#8] := by rw [hw11]; exact RB.lit w10 _ 2 rfl
  have s11 := r10.below (b11.mono (by omega))
  have k11 := next_below k10 b11
  refine Calls.mono (show Calls Tryd.prog _ _ (w10.alloc (.cells (bytes [1#8, 2#8]).toArray 5)) _ from by rw [← hw11]; exact sameBytes_any _ _ _ 2 c7 _ _ 2 2 _ w11 s11 l11 (by decide)) ?_
  rintro e w12 ⟨rfl, q, rfl⟩
  rw [show decide ([1#8, 2#8] = [1#8, 2#8]) = true from by decide]
  clear hw11 hw10
  go_wp2
  go_ret
  exact ⟨rfl, below_drewN k11 q⟩
end Go.Proofs.YtinenekbdcbcnaaDoor
