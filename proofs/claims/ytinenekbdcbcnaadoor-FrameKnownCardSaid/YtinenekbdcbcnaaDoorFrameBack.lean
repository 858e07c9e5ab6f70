/- The walk of the statement FrameBack. -/
import Derived.Test.YtinenekbdcbcnaaDoorFrameHeads
import Derived.Test.YtinenekbdcbcnaaDoorFrameM3
namespace Go.Proofs.YtinenekbdcbcnaaDoor
open Go.RowKit

set_option maxHeartbeats 6400000 in
set_option maxRecDepth 100000 in
theorem back03_walk (kf : Int) (A : Option Addr) (n c : Nat) (bs : List (BitVec 8)) (B : Option Addr) (m d : Nat) (ys : List (BitVec 8)) (w : World) (ht : Tabs w) (hkf : -9223372036854775808 ≤ kf ∧ kf ≤ 9223372036854775807)
    (hb : RB w (· < w.heap.size) A n bs) (hy : RB w (· < w.heap.size) B m ys) (hmd : m ≤ d) (hd2 : d ≤ 9223372036854775807) :
    Calls Tryd.prog 12 #[.agg #[.int .i64 kf, .slice A n c], .slice B m d] w fun e w' => e = .returned (.bool true) ∧ Below w.heap.size w w' := by
  obtain ⟨w1, hw1⟩ : ∃ w1, w1 = w.alloc (.cells #[.int .i64 kf, .slice A n c] 48) := ⟨_, rfl⟩
  have k1 : Below w.heap.size w w1 := by rw [hw1]; exact (Below.refl _ _).alloc (Nat.le_refl _) _
  have z1 : w.heap.size < w1.heap.size := by rw [hw1]; simp
  have hc0 : ∀ W, Below w1.heap.size w1 W → W.cell? ⟨w.heap.size, 0, none⟩ = some (.int .i64 kf) ∧ W.cell? ⟨w.heap.size, 1, none⟩ = some (.slice A n c) := fun W h =>
    ⟨(h.cell (p := ⟨w.heap.size, 0, none⟩) z1).trans (by rw [hw1, World.cell?_alloc_new]; rfl), (h.cell (p := ⟨w.heap.size, 1, none⟩) z1).trans (by rw [hw1, World.cell?_alloc_new]; rfl)⟩
  have C := Lib.hid hc0
  clear hc0
  by_cases hbig : 4096 < m
  · have hbg : decide (4096 < (m : Int)) = true := by simp; omega
    go_enter Tryd.func12, Tryd.ntmps12
    go_wp2_with fail
    rw [← hw1]
    refine (shown_any w1 (ht.below k1 ht.size)).mono ?_
    rintro e w2 ⟨rfl, hB⟩
    have k2 := next_below k1 hB
    go_wp2
    go_ret
    exact ⟨rfl, k2⟩
  have hbg : decide (4096 < (m : Int)) = false := by simp; omega
  by_cases hbig2 : 500 < n
  · have hbg2 : decide (500 < (n : Int)) = true := by simp; omega
    go_enter Tryd.func12, Tryd.ntmps12
    go_wp2_with fail
    rw [← hw1]
    refine (shown_any w1 (ht.below k1 ht.size)).mono ?_
    rintro e w2 ⟨rfl, hB⟩
    have k2 := next_below k1 hB
    go_wp2
    go_ret
    exact ⟨rfl, k2⟩
  have hbg2 : decide (500 < (n : Int)) = false := by simp; omega
  have hb1 := (hb.below k1).more (Q := (· < w1.heap.size)) fun i hi => Nat.lt_of_lt_of_le hi k1.size
  by_cases hlt : kf < 1
  · have d1 : decide (1 ≤ kf) = false := by simp; omega
    rcases Fr.getL_cases ys with ⟨hne, hg⟩ | ⟨_, h4, hx0, hL, hL9, htl, hg⟩
    · obtain ⟨E, hE⟩ : ∃ E, E = Fr.errL ys := ⟨_, rfl⟩
      rw [← hE] at hne hg
      have dE : (E != 0) = true := by simp [hne]
      have HG := Lib.hid hg
      clear hg hne hE
      go_enter Tryd.func12, Tryd.ntmps12
      go_wp2_with fail
      rw [← hw1]
      clear hw1
      refine (put_kind kf A n c w1 (by omega)).mono ?_
      rintro e wS ⟨rfl, hB⟩
      have e0 := (C.out wS hB).1
      have e1 := (C.out wS hB).2
      have kS := next_below k1 hB
      clear hB
      go_wp2_with fail
      have htS := ht.below kS ht.size
      have yS := (hy.below kS).more (Q := (· < wS.heap.size)) fun i hi => Nat.lt_of_lt_of_le hi kS.size
      refine (get_any B m d ys wS htS yS (by omega) hmd hd2).mono ?_
      rintro e w7 ⟨v7, rfl, hown7, hB7⟩
      rw [HG.out] at hown7
      rw [HG.out]
      have k7 := next_below kS hB7
      obtain ⟨A7, c7, rfl, _⟩ := own_form hown7
      have k8 := k7.alloc k7.size (.cells #[.int .i64 0, .slice A7 0 c7] 48)
      clear hown7 hB7 yS htS
      go_wp2_with fail
      refine (shown_any _ (ht.below k8 ht.size)).mono ?_
      rintro e w9 ⟨rfl, hB9⟩
      have k9 := next_below k8 hB9
      go_wp2
      go_ret
      exact ⟨rfl, k9⟩
    · have hbk := Fr.bytesOf_getL h4 hL hL9 htl
      obtain ⟨x0, hx⟩ : ∃ x0, x0 = (ys.getD 0 0).toNat := ⟨_, rfl⟩
      have hx1 : 1 ≤ x0 := by
        have : x0 ≠ 0 := fun e => hx0 (BitVec.eq_of_toNat_eq (by rw [← hx, e]; rfl))
        omega
      have hx2 : x0 ≤ 255 := by rw [hx]; have := (ys.getD 0 0).isLt; omega
      obtain ⟨L, hLL⟩ : ∃ L, L = Fr.lenL ys := ⟨_, rfl⟩
      obtain ⟨bd, hbd⟩ : ∃ bd, bd = (ys.drop 4).take L := ⟨_, rfl⟩
      rw [← hLL] at hL hL9 hbk hg
      rw [← hbd, ← hx] at hbk hg
      rw [hy.len] at hL9
      have hbl : bd.length = L := by rw [hbd]; have := hy.len; simp; omega
      have dLm : decide ((L : Int) + 9 ≤ (m : Int)) = true := by simp; omega
      have HG := Lib.hid hg
      have HBK := Lib.hid hbk
      have HBL := Lib.hid hbl
      clear hg hbk hbl hbd hLL hx htl h4 hx0
      go_enter Tryd.func12, Tryd.ntmps12
      go_wp2_with fail
      rw [← hw1]
      clear hw1
      refine (put_kind kf A n c w1 (by omega)).mono ?_
      rintro e wS ⟨rfl, hB⟩
      have e0 := (C.out wS hB).1
      have e1 := (C.out wS hB).2
      have kS := next_below k1 hB
      clear hB
      go_wp2_with fail
      have htS := ht.below kS ht.size
      have yS := (hy.below kS).more (Q := (· < wS.heap.size)) fun i hi => Nat.lt_of_lt_of_le hi kS.size
      refine (get_any B m d ys wS htS yS (by omega) hmd hd2).mono ?_
      rintro e w7 ⟨v7, rfl, hown7, hB7⟩
      rw [HG.out] at hown7
      rw [HG.out]
      have k7 := next_below kS hB7
      have hown7 : w7.ownsRow wS.heap.size 5 1 v7 bd.length (bytes bd) := hown7
      rw [HBL.out] at hown7
      obtain ⟨A7, c7, rfl, _⟩ := own_form hown7
      have r7 : RB w7 (· < w7.heap.size) A7 L bd := (own_reads hown7).more fun _ h => h.2
      have b8 : Below w7.heap.size w7 (w7.alloc (.cells #[.int .i64 (x0 : Int), .slice A7 L c7] 48)) := (Below.refl _ _).alloc (Nat.le_refl _) _
      have k8 := next_below k7 b8
      have r8 := (r7.below b8).more (Q := (· < (w7.alloc (.cells #[.int .i64 (x0 : Int), .slice A7 L c7] 48)).heap.size)) fun i hi => Nat.lt_of_lt_of_le hi b8.size
      clear hown7 hB7 yS htS r7
      go_wp2_with fail
      refine (put_ok x0 A7 L c7 bd _ (ht.below k8 ht.size) r8 (by omega) (by omega) (by omega)).mono ?_
      rintro e w9 ⟨v9, rfl, hown9, hB9⟩
      obtain ⟨X9, c9, rfl, _, _, _⟩ := own_form hown9
      have r9 : RB w9 (· < w9.heap.size) X9 (L + 9) (Fr.bytesOf x0 bd) := (own_reads hown9).more fun _ h => h.2
      have k9 := next_below k8 hB9
      have y9 := (hy.below k9).take (k := L + 9) (by omega)
      rw [HBK.out] at r9
      clear hown9 hB9 r8 b8 k8
      go_wp2_with fail
      refine (sameBytes_any _ _ X9 (L + 9) c9 (ys.take (L + 9)) B (L + 9) d (ys.take (L + 9)) w9 r9 y9 (by omega)).mono ?_
      rintro e w10 ⟨rfl, q, rfl⟩
      rw [show decide (ys.take (L + 9) = ys.take (L + 9)) = true from by simp]
      have k10 := below_drewN k9 q
      clear k9 r9 y9
      generalize w9.drewN q = w10 at *
      go_wp2_with fail
      refine (shown_any w10 (ht.below k10 ht.size)).mono ?_
      rintro e w11 ⟨rfl, hB11⟩
      have k11 := next_below k10 hB11
      go_wp2
      go_ret
      exact ⟨rfl, k11⟩
  have d1 : decide (1 ≤ kf) = true := by simp; omega
  by_cases hgt : 255 < kf
  · have d2 : decide (kf ≤ 255) = false := by simp; omega
    rcases Fr.getL_cases ys with ⟨hne, hg⟩ | ⟨_, h4, hx0, hL, hL9, htl, hg⟩
    · obtain ⟨E, hE⟩ : ∃ E, E = Fr.errL ys := ⟨_, rfl⟩
      rw [← hE] at hne hg
      have dE : (E != 0) = true := by simp [hne]
      have HG := Lib.hid hg
      clear hg hne hE
      go_enter Tryd.func12, Tryd.ntmps12
      go_wp2_with fail
      rw [← hw1]
      clear hw1
      refine (put_kind kf A n c w1 (by omega)).mono ?_
      rintro e wS ⟨rfl, hB⟩
      have e0 := (C.out wS hB).1
      have e1 := (C.out wS hB).2
      have kS := next_below k1 hB
      clear hB
      go_wp2_with fail
      have htS := ht.below kS ht.size
      have yS := (hy.below kS).more (Q := (· < wS.heap.size)) fun i hi => Nat.lt_of_lt_of_le hi kS.size
      refine (get_any B m d ys wS htS yS (by omega) hmd hd2).mono ?_
      rintro e w7 ⟨v7, rfl, hown7, hB7⟩
      rw [HG.out] at hown7
      rw [HG.out]
      have k7 := next_below kS hB7
      obtain ⟨A7, c7, rfl, _⟩ := own_form hown7
      have k8 := k7.alloc k7.size (.cells #[.int .i64 0, .slice A7 0 c7] 48)
      clear hown7 hB7 yS htS
      go_wp2_with fail
      refine (shown_any _ (ht.below k8 ht.size)).mono ?_
      rintro e w9 ⟨rfl, hB9⟩
      have k9 := next_below k8 hB9
      go_wp2
      go_ret
      exact ⟨rfl, k9⟩
    · have hbk := Fr.bytesOf_getL h4 hL hL9 htl
      obtain ⟨x0, hx⟩ : ∃ x0, x0 = (ys.getD 0 0).toNat := ⟨_, rfl⟩
      have hx1 : 1 ≤ x0 := by
        have : x0 ≠ 0 := fun e => hx0 (BitVec.eq_of_toNat_eq (by rw [← hx, e]; rfl))
        omega
      have hx2 : x0 ≤ 255 := by rw [hx]; have := (ys.getD 0 0).isLt; omega
      obtain ⟨L, hLL⟩ : ∃ L, L = Fr.lenL ys := ⟨_, rfl⟩
      obtain ⟨bd, hbd⟩ : ∃ bd, bd = (ys.drop 4).take L := ⟨_, rfl⟩
      rw [← hLL] at hL hL9 hbk hg
      rw [← hbd, ← hx] at hbk hg
      rw [hy.len] at hL9
      have hbl : bd.length = L := by rw [hbd]; have := hy.len; simp; omega
      have dLm : decide ((L : Int) + 9 ≤ (m : Int)) = true := by simp; omega
      have HG := Lib.hid hg
      have HBK := Lib.hid hbk
      have HBL := Lib.hid hbl
      clear hg hbk hbl hbd hLL hx htl h4 hx0
      go_enter Tryd.func12, Tryd.ntmps12
      go_wp2_with fail
      rw [← hw1]
      clear hw1
      refine (put_kind kf A n c w1 (by omega)).mono ?_
      rintro e wS ⟨rfl, hB⟩
      have e0 := (C.out wS hB).1
      have e1 := (C.out wS hB).2
      have kS := next_below k1 hB
      clear hB
      go_wp2_with fail
      have htS := ht.below kS ht.size
      have yS := (hy.below kS).more (Q := (· < wS.heap.size)) fun i hi => Nat.lt_of_lt_of_le hi kS.size
      refine (get_any B m d ys wS htS yS (by omega) hmd hd2).mono ?_
      rintro e w7 ⟨v7, rfl, hown7, hB7⟩
      rw [HG.out] at hown7
      rw [HG.out]
      have k7 := next_below kS hB7
      have hown7 : w7.ownsRow wS.heap.size 5 1 v7 bd.length (bytes bd) := hown7
      rw [HBL.out] at hown7
      obtain ⟨A7, c7, rfl, _⟩ := own_form hown7
      have r7 : RB w7 (· < w7.heap.size) A7 L bd := (own_reads hown7).more fun _ h => h.2
      have b8 : Below w7.heap.size w7 (w7.alloc (.cells #[.int .i64 (x0 : Int), .slice A7 L c7] 48)) := (Below.refl _ _).alloc (Nat.le_refl _) _
      have k8 := next_below k7 b8
      have r8 := (r7.below b8).more (Q := (· < (w7.alloc (.cells #[.int .i64 (x0 : Int), .slice A7 L c7] 48)).heap.size)) fun i hi => Nat.lt_of_lt_of_le hi b8.size
      clear hown7 hB7 yS htS r7
      go_wp2_with fail
      refine (put_ok x0 A7 L c7 bd _ (ht.below k8 ht.size) r8 (by omega) (by omega) (by omega)).mono ?_
      rintro e w9 ⟨v9, rfl, hown9, hB9⟩
      obtain ⟨X9, c9, rfl, _, _, _⟩ := own_form hown9
      have r9 : RB w9 (· < w9.heap.size) X9 (L + 9) (Fr.bytesOf x0 bd) := (own_reads hown9).more fun _ h => h.2
      have k9 := next_below k8 hB9
      have y9 := (hy.below k9).take (k := L + 9) (by omega)
      rw [HBK.out] at r9
      clear hown9 hB9 r8 b8 k8
      go_wp2_with fail
      refine (sameBytes_any _ _ X9 (L + 9) c9 (ys.take (L + 9)) B (L + 9) d (ys.take (L + 9)) w9 r9 y9 (by omega)).mono ?_
      rintro e w10 ⟨rfl, q, rfl⟩
      rw [show decide (ys.take (L + 9) = ys.take (L + 9)) = true from by simp]
      have k10 := below_drewN k9 q
      clear k9 r9 y9
      generalize w9.drewN q = w10 at *
      go_wp2_with fail
      refine (shown_any w10 (ht.below k10 ht.size)).mono ?_
      rintro e w11 ⟨rfl, hB11⟩
      have k11 := next_below k10 hB11
      go_wp2
      go_ret
      exact ⟨rfl, k11⟩
  have d2 : decide (kf ≤ 255) = true := by simp; omega
  obtain ⟨k, rfl⟩ : ∃ k : Nat, kf = (k : Int) := ⟨kf.toNat, by omega⟩
  have hgk := Fr.getL_bytesOf (k := k) (body := bs) (rest := ys) (by omega) (by omega) (by rw [hb.len]; omega)
  rw [hb.len] at hgk
  have HGK := Lib.hid hgk
  clear hgk
  rcases Fr.getL_cases ys with ⟨hne, hg⟩ | ⟨_, h4, hx0, hL, hL9, htl, hg⟩
  · obtain ⟨E, hE⟩ : ∃ E, E = Fr.errL ys := ⟨_, rfl⟩
    rw [← hE] at hne hg
    have dE : (E != 0) = true := by simp [hne]
    have HG := Lib.hid hg
    clear hg hne hE
    go_enter Tryd.func12, Tryd.ntmps12
    go_wp2_with fail
    rw [← hw1]
    clear hw1
    refine (put_ok k A n c bs w1 (ht.below k1 ht.size) hb1 (by omega) (by omega) (by omega)).mono ?_
    rintro e w2 ⟨v, rfl, hown, b2⟩
    obtain ⟨X, cx, rfl, hcx, hcx2, _⟩ := own_form hown
    have rx : RB w2 (· < w2.heap.size) X (n + 9) (Fr.bytesOf k bs) := (own_reads hown).more fun _ h => h.2
    have k2 := next_below k1 b2
    have e0 := (C.out w2 b2).1
    have e1 := (C.out w2 b2).2
    have y2 := (hy.below k2).more (Q := (· < w2.heap.size)) fun i hi => Nat.lt_of_lt_of_le hi k2.size
    have hownE : (w2.alloc (.cells #[] 5)).ownsRow w2.heap.size 5 1 (.slice (some ⟨w2.heap.size, 0, none⟩) 0 0) 0 [] := World.ownsRow_made w2 #[] 0 (Nat.le_refl _) (by decide) rfl
    have kE : Below w2.heap.size w2 (w2.alloc (.cells #[] 5)) := (Below.refl _ _).alloc (Nat.le_refl _) _
    have rE := rx.below kE
    clear hown rx
    go_wp2_with (first
      | (at_builtin; refine wpList_appN _ rfl (.tmp 57) (.tmp 58) 23 rfl w2.heap.size 5 (.int .u8 0) 1 1 Tryd.underlying23 infoU8 rfl (by decide) _ 0 _ hownE rfl _ _ (n + 9) cx _ rE rfl (bytes_one _) (by omega) (by omega) (by simp) ?_; intro v3 w3 hown3 _ hb3 _)
      | (at_builtin; refine wpList_appN w3 rfl (.tmp 59) (.tmp 60) 23 rfl w2.heap.size 5 (.int .u8 0) 1 1 Tryd.underlying23 infoU8 rfl (by decide) _ (0 + (n + 9)) _ hown3 rfl _ _ m d _ (Reads.below y2 (kE.trans hb3)) rfl (bytes_one _) (by omega) (by omega) (Nat.le_trans (by simp) hb3.size) ?_; intro v4 w4 hown4 _ hb4 _))
    have hown4' : w4.ownsRow w2.heap.size 5 1 v4 (n + 9 + m) (bytes (Fr.bytesOf k bs ++ ys)) := by rw [bytes_append, ← Nat.zero_add (n + 9)]; exact hown4
    obtain ⟨Y, cy, rfl, hcy, hcy2, _⟩ := own_form hown4'
    have r4 : RB w4 (· < w4.heap.size) Y (n + 9 + m) (Fr.bytesOf k bs ++ ys) := (own_reads hown4').more fun _ h => h.2
    have b4 : Below w2.heap.size w2 w4 := (kE.trans hb3).trans hb4
    have k4 := next_below k2 b4
    have j4 := next_below b2 b4
    clear hown3 hown4 hown4' hb3 hb4 kE rE hownE y2 b4 e0 e1
    refine (get_any Y (n + 9 + m) cy (Fr.bytesOf k bs ++ ys) w4 (ht.below k4 ht.size) r4 (by omega) hcy hcy2).mono ?_
    rintro e w5 ⟨v5, rfl, hown5, hB5⟩
    rw [HGK.out] at hown5
    rw [HGK.out]
    have hown5 : w5.ownsRow w4.heap.size 5 1 v5 bs.length (bytes bs) := hown5
    rw [hb.len] at hown5
    obtain ⟨A5, c5, rfl, _⟩ := own_form hown5
    have r5 : RB w5 (· < w5.heap.size) A5 n bs := (own_reads hown5).more fun _ h => h.2
    have k5 := next_below k4 hB5
    have j5 := next_below j4 hB5
    obtain ⟨w6, hw6⟩ : ∃ w6, w6 = w5.alloc (.cells #[.int .i64 (k : Int), .slice A5 n c5] 48) := ⟨_, rfl⟩
    have b6 : Below w5.heap.size w5 w6 := by rw [hw6]; exact (Below.refl _ _).alloc (Nat.le_refl _) _
    have k6 := next_below k5 b6
    have j6 := next_below j5 b6
    have e0 := (C.out w5 j5).1
    have e1 := (C.out w5 j5).2
    have z5 : w.heap.size < w5.heap.size := Nat.lt_of_lt_of_le z1 j5.size
    have q0 : w6.cell? ⟨w5.heap.size, 0, none⟩ = some (.int .i64 (k : Int)) := by rw [hw6, World.cell?_alloc_new]; rfl
    have q1 : w6.cell? ⟨w5.heap.size, 1, none⟩ = some (.slice A5 n c5) := by rw [hw6, World.cell?_alloc_new]; rfl
    have r6 := r5.below b6
    have s6 := hb.below k6
    clear hown5 hB5 r4 r5 b6 k5 j5 k4 j4
    go_wp2_with fail
    try rw [← hw6]
    clear hw6
    refine (sameBytes_any _ _ A5 n c5 bs A n c bs w6 r6 s6 (by omega)).mono ?_
    rintro e wS ⟨rfl, q, rfl⟩
    rw [show decide (bs = bs) = true from by simp]
    have kS := below_drewN k6 q
    have jS := below_drewN j6 q
    clear r6 s6 k6 j6 q0 q1 e0 e1
    generalize w6.drewN q = wS at *
    have e0 := (C.out wS jS).1
    have e1 := (C.out wS jS).2
    go_wp2_with fail
    have htS := ht.below kS ht.size
    have yS := (hy.below kS).more (Q := (· < wS.heap.size)) fun i hi => Nat.lt_of_lt_of_le hi kS.size
    refine (get_any B m d ys wS htS yS (by omega) hmd hd2).mono ?_
    rintro e w7 ⟨v7, rfl, hown7, hB7⟩
    rw [HG.out] at hown7
    rw [HG.out]
    have k7 := next_below kS hB7
    obtain ⟨A7, c7, rfl, _⟩ := own_form hown7
    have k8 := k7.alloc k7.size (.cells #[.int .i64 0, .slice A7 0 c7] 48)
    clear hown7 hB7 yS htS
    go_wp2_with fail
    refine (shown_any _ (ht.below k8 ht.size)).mono ?_
    rintro e w9 ⟨rfl, hB9⟩
    have k9 := next_below k8 hB9
    go_wp2
    go_ret
    exact ⟨rfl, k9⟩
  · have hbk := Fr.bytesOf_getL h4 hL hL9 htl
    obtain ⟨x0, hx⟩ : ∃ x0, x0 = (ys.getD 0 0).toNat := ⟨_, rfl⟩
    have hx1 : 1 ≤ x0 := by
      have : x0 ≠ 0 := fun e => hx0 (BitVec.eq_of_toNat_eq (by rw [← hx, e]; rfl))
      omega
    have hx2 : x0 ≤ 255 := by rw [hx]; have := (ys.getD 0 0).isLt; omega
    obtain ⟨L, hLL⟩ : ∃ L, L = Fr.lenL ys := ⟨_, rfl⟩
    obtain ⟨bd, hbd⟩ : ∃ bd, bd = (ys.drop 4).take L := ⟨_, rfl⟩
    rw [← hLL] at hL hL9 hbk hg
    rw [← hbd, ← hx] at hbk hg
    rw [hy.len] at hL9
    have hbl : bd.length = L := by rw [hbd]; have := hy.len; simp; omega
    have dLm : decide ((L : Int) + 9 ≤ (m : Int)) = true := by simp; omega
    have HG := Lib.hid hg
    have HBK := Lib.hid hbk
    have HBL := Lib.hid hbl
    clear hg hbk hbl hbd hLL hx htl h4 hx0
    go_enter Tryd.func12, Tryd.ntmps12
    go_wp2_with fail
    rw [← hw1]
    clear hw1
    refine (put_ok k A n c bs w1 (ht.below k1 ht.size) hb1 (by omega) (by omega) (by omega)).mono ?_
    rintro e w2 ⟨v, rfl, hown, b2⟩
    obtain ⟨X, cx, rfl, hcx, hcx2, _⟩ := own_form hown
    have rx : RB w2 (· < w2.heap.size) X (n + 9) (Fr.bytesOf k bs) := (own_reads hown).more fun _ h => h.2
    have k2 := next_below k1 b2
    have e0 := (C.out w2 b2).1
    have e1 := (C.out w2 b2).2
    have y2 := (hy.below k2).more (Q := (· < w2.heap.size)) fun i hi => Nat.lt_of_lt_of_le hi k2.size
    have hownE : (w2.alloc (.cells #[] 5)).ownsRow w2.heap.size 5 1 (.slice (some ⟨w2.heap.size, 0, none⟩) 0 0) 0 [] := World.ownsRow_made w2 #[] 0 (Nat.le_refl _) (by decide) rfl
    have kE : Below w2.heap.size w2 (w2.alloc (.cells #[] 5)) := (Below.refl _ _).alloc (Nat.le_refl _) _
    have rE := rx.below kE
    clear hown rx
    go_wp2_with (first
      | (at_builtin; refine wpList_appN _ rfl (.tmp 57) (.tmp 58) 23 rfl w2.heap.size 5 (.int .u8 0) 1 1 Tryd.underlying23 infoU8 rfl (by decide) _ 0 _ hownE rfl _ _ (n + 9) cx _ rE rfl (bytes_one _) (by omega) (by omega) (by simp) ?_; intro v3 w3 hown3 _ hb3 _)
      | (at_builtin; refine wpList_appN w3 rfl (.tmp 59) (.tmp 60) 23 rfl w2.heap.size 5 (.int .u8 0) 1 1 Tryd.underlying23 infoU8 rfl (by decide) _ (0 + (n + 9)) _ hown3 rfl _ _ m d _ (Reads.below y2 (kE.trans hb3)) rfl (bytes_one _) (by omega) (by omega) (Nat.le_trans (by simp) hb3.size) ?_; intro v4 w4 hown4 _ hb4 _))
    have hown4' : w4.ownsRow w2.heap.size 5 1 v4 (n + 9 + m) (bytes (Fr.bytesOf k bs ++ ys)) := by rw [bytes_append, ← Nat.zero_add (n + 9)]; exact hown4
    obtain ⟨Y, cy, rfl, hcy, hcy2, _⟩ := own_form hown4'
    have r4 : RB w4 (· < w4.heap.size) Y (n + 9 + m) (Fr.bytesOf k bs ++ ys) := (own_reads hown4').more fun _ h => h.2
    have b4 : Below w2.heap.size w2 w4 := (kE.trans hb3).trans hb4
    have k4 := next_below k2 b4
    have j4 := next_below b2 b4
    clear hown3 hown4 hown4' hb3 hb4 kE rE hownE y2 b4 e0 e1
    refine (get_any Y (n + 9 + m) cy (Fr.bytesOf k bs ++ ys) w4 (ht.below k4 ht.size) r4 (by omega) hcy hcy2).mono ?_
    rintro e w5 ⟨v5, rfl, hown5, hB5⟩
    rw [HGK.out] at hown5
    rw [HGK.out]
    have hown5 : w5.ownsRow w4.heap.size 5 1 v5 bs.length (bytes bs) := hown5
    rw [hb.len] at hown5
    obtain ⟨A5, c5, rfl, _⟩ := own_form hown5
    have r5 : RB w5 (· < w5.heap.size) A5 n bs := (own_reads hown5).more fun _ h => h.2
    have k5 := next_below k4 hB5
    have j5 := next_below j4 hB5
    obtain ⟨w6, hw6⟩ : ∃ w6, w6 = w5.alloc (.cells #[.int .i64 (k : Int), .slice A5 n c5] 48) := ⟨_, rfl⟩
    have b6 : Below w5.heap.size w5 w6 := by rw [hw6]; exact (Below.refl _ _).alloc (Nat.le_refl _) _
    have k6 := next_below k5 b6
    have j6 := next_below j5 b6
    have e0 := (C.out w5 j5).1
    have e1 := (C.out w5 j5).2
    have z5 : w.heap.size < w5.heap.size := Nat.lt_of_lt_of_le z1 j5.size
    have q0 : w6.cell? ⟨w5.heap.size, 0, none⟩ = some (.int .i64 (k : Int)) := by rw [hw6, World.cell?_alloc_new]; rfl
    have q1 : w6.cell? ⟨w5.heap.size, 1, none⟩ = some (.slice A5 n c5) := by rw [hw6, World.cell?_alloc_new]; rfl
    have r6 := r5.below b6
    have s6 := hb.below k6
    clear hown5 hB5 r4 r5 b6 k5 j5 k4 j4
    go_wp2_with fail
    try rw [← hw6]
    clear hw6
    refine (sameBytes_any _ _ A5 n c5 bs A n c bs w6 r6 s6 (by omega)).mono ?_
    rintro e wS ⟨rfl, q, rfl⟩
    rw [show decide (bs = bs) = true from by simp]
    have kS := below_drewN k6 q
    have jS := below_drewN j6 q
    clear r6 s6 k6 j6 q0 q1 e0 e1
    generalize w6.drewN q = wS at *
    have e0 := (C.out wS jS).1
    have e1 := (C.out wS jS).2
    go_wp2_with fail
    have htS := ht.below kS ht.size
    have yS := (hy.below kS).more (Q := (· < wS.heap.size)) fun i hi => Nat.lt_of_lt_of_le hi kS.size
    refine (get_any B m d ys wS htS yS (by omega) hmd hd2).mono ?_
    rintro e w7 ⟨v7, rfl, hown7, hB7⟩
    rw [HG.out] at hown7
    rw [HG.out]
    have k7 := next_below kS hB7
    have hown7 : w7.ownsRow wS.heap.size 5 1 v7 bd.length (bytes bd) := hown7
    rw [HBL.out] at hown7
    obtain ⟨A7, c7, rfl, _⟩ := own_form hown7
    have r7 : RB w7 (· < w7.heap.size) A7 L bd := (own_reads hown7).more fun _ h => h.2
    have b8 : Below w7.heap.size w7 (w7.alloc (.cells #[.int .i64 (x0 : Int), .slice A7 L c7] 48)) := (Below.refl _ _).alloc (Nat.le_refl _) _
    have k8 := next_below k7 b8
    have r8 := (r7.below b8).more (Q := (· < (w7.alloc (.cells #[.int .i64 (x0 : Int), .slice A7 L c7] 48)).heap.size)) fun i hi => Nat.lt_of_lt_of_le hi b8.size
    clear hown7 hB7 yS htS r7
    go_wp2_with fail
    refine (put_ok x0 A7 L c7 bd _ (ht.below k8 ht.size) r8 (by omega) (by omega) (by omega)).mono ?_
    rintro e w9 ⟨v9, rfl, hown9, hB9⟩
    obtain ⟨X9, c9, rfl, _, _, _⟩ := own_form hown9
    have r9 : RB w9 (· < w9.heap.size) X9 (L + 9) (Fr.bytesOf x0 bd) := (own_reads hown9).more fun _ h => h.2
    have k9 := next_below k8 hB9
    have y9 := (hy.below k9).take (k := L + 9) (by omega)
    rw [HBK.out] at r9
    clear hown9 hB9 r8 b8 k8
    go_wp2_with fail
    refine (sameBytes_any _ _ X9 (L + 9) c9 (ys.take (L + 9)) B (L + 9) d (ys.take (L + 9)) w9 r9 y9 (by omega)).mono ?_
    rintro e w10 ⟨rfl, q, rfl⟩
    rw [show decide (ys.take (L + 9) = ys.take (L + 9)) = true from by simp]
    have k10 := below_drewN k9 q
    clear k9 r9 y9
    generalize w9.drewN q = w10 at *
    go_wp2_with fail
    refine (shown_any w10 (ht.below k10 ht.size)).mono ?_
    rintro e w11 ⟨rfl, hB11⟩
    have k11 := next_below k10 hB11
    go_wp2
    go_ret
    exact ⟨rfl, k11⟩
end Go.Proofs.YtinenekbdcbcnaaDoor
