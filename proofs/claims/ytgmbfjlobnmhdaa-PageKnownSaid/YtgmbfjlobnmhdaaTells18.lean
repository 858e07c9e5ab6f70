/- The chapter's pages ('works'); the walk of the statement PageTells. -/
import Derived.Test.YtgmbfjlobnmhdaaRising
namespace Go.Proofs.Ytgmbfjlobnmhdaa
open Go.RowKit

/-- What a call that hands back rows of its own and a yes or no leaves. -/
def Told (w : World) (D : List Rw) (most : Int) (e : Ending) (w' : World) : Prop :=
  ∃ A N c β, N = firstN D.length most ∧ β = decide (N < D.length) ∧ e = .returned (.tuple #[.slice A N c, .bool β]) ∧ N ≤ c ∧ c ≤ 9223372036854775807 ∧
    w'.ownsRow w.heap.size 34 3 (.slice A N c) N (rcs (D.take N)) ∧ RR w' (· < w'.heap.size) A N (D.take N) ∧ Below w.heap.size w w'
theorem told_of {w : World} {D : List Rw} {most : Int} (hD : ∀ r ∈ D, RwOk r) {e : Ending} {w' : World} {v : Value} {N : Nat} (hN : N = firstN D.length most) (he : e = .returned (.tuple #[v, .bool (decide (N < D.length))]))
    (hown : w'.ownsRow w.heap.size 34 3 v N (rcs (D.take N))) (hB : Below w.heap.size w w') : Told w D most e w' := by
  obtain ⟨A, c, rfl, h1, h2, _⟩ := own_form hown
  exact ⟨A, N, c, _, hN, rfl, he, h1, h2, hown, ⟨(own_reads hown).more fun _ h => h.2, fun r hr => hD r (List.mem_of_mem_take hr)⟩, hB⟩
theorem behind_ok {l : List Rw} {b : Int} (h : ∀ r ∈ l, RwOk r) : ∀ r ∈ behindL l b, RwOk r := fun r hr => h r (List.mem_filter.1 hr).1

theorem query_t (A : Option Addr) (n c : Nat) (l : List Rw) (behind most : Int) (w : World) (hb : RR w (· < w.heap.size) A n l) (hn : n ≤ 1099511627000) (hc : n ≤ c) (hc2 : c ≤ 9223372036854775807) (hR : Rise l) (hm : I64 most) :
    Calls Try.prog 11 #[.slice A n c, .int .i64 behind, .int .i64 most] w (Told w (behindL l behind) most) :=
  (query_any A n c l behind most w hb hn hc hc2 hR hm).mono fun _ _ ⟨_, _, hN, he, hown, hB⟩ => told_of (behind_ok hb.2) hN he hown hB
theorem refQuery_t (A : Option Addr) (n c : Nat) (l : List Rw) (behind most : Int) (w : World) (hb : RR w (· < w.heap.size) A n l) (hn : n ≤ 1099511627000) (hm : I64 most) :
    Calls Try.prog 12 #[.slice A n c, .int .i64 behind, .int .i64 most] w (Told w (behindL l behind) most) :=
  (refQuery_any A n c l behind most w hb hn hm).mono fun _ _ ⟨_, _, hN, he, hown, hB⟩ => told_of (behind_ok hb.2) hN he hown hB
theorem first_t (A : Option Addr) (n c : Nat) (l : List Rw) (most : Int) (w : World) (hb : RR w (· < w.heap.size) A n l) (hn : n ≤ 1099511627000) (hc : n ≤ c) (hc2 : c ≤ 9223372036854775807) (hm : I64 most) :
    Calls Try.prog 13 #[.slice A n c, .int .i64 most] w (Told w l most) :=
  (first_walk (firstN n most) _ A n c l most w hb (fun _ h => h) hn hc hc2 hm rfl).mono fun _ _ ⟨_, he, hown, hB⟩ => told_of hb.2 (by rw [hb.len]) (by rw [hb.len]; exact he) hown hB
theorem refFirst_t (A : Option Addr) (n c : Nat) (l : List Rw) (most : Int) (w : World) (hb : RR w (· < w.heap.size) A n l) (hn : n ≤ 1099511627000) (hm : I64 most) :
    Calls Try.prog 14 #[.slice A n c, .int .i64 most] w (Told w l most) :=
  (refFirst_any _ A n c l most w hb (fun _ h => h) hn hm).mono fun _ _ ⟨_, he, hown, hB⟩ => told_of hb.2 (by rw [hb.len]) (by rw [hb.len]; exact he) hown hB
theorem same_b (P Q : Nat → Prop) (A : Option Addr) (n c : Nat) (xs : List Rw) (B : Option Addr) (m d : Nat) (w : World) (ha : RR w P A n xs) (hb : RR w Q B m xs) (hn : n ≤ 1099511627776) :
    Calls Try.prog 15 #[.slice A n c, .slice B m d] w fun e w' => e = .returned (.bool true) ∧ Below w.heap.size w w' :=
  (sameRows_any P Q A n c xs B m d xs w ha hb hn).mono fun _ _ ⟨h, q, h2⟩ => ⟨by rw [h]; simp, by rw [h2]; exact below_drewN (Below.refl _ _) q⟩

def four : List Rw := [(-2, 0, 0), (0, 0, 0), (5, 0, 0), (9, 0, 0)]
theorem four_ok : ∀ r ∈ four, RwOk r := by
  intro r hr
  simp only [four, List.mem_cons, List.not_mem_nil, or_false] at hr
  rcases hr with rfl | rfl | rfl | rfl <;> exact ⟨⟨by decide, by decide⟩, ⟨by decide, by decide⟩, ⟨by decide, by decide⟩⟩
theorem four_rise : Rise four := by
  intro i j x y hij hx hy
  have hi : i < 4 := (List.getElem?_eq_some_iff.1 hx).1
  have hj : j < 4 := (List.getElem?_eq_some_iff.1 hy).1
  match i, j, hi, hj with
  | 0, 1, _, _ | 0, 2, _, _ | 0, 3, _, _ | 1, 2, _, _ | 1, 3, _, _ | 2, 3, _, _ => simp [four] at hx hy; subst hx hy; decide
  | 0, 0, _, _ | 1, 0, _, _ | 1, 1, _, _ | 2, 0, _, _ | 2, 1, _, _ | 2, 2, _, _ | 3, 0, _, _ | 3, 1, _, _ | 3, 2, _, _ | 3, 3, _, _ => omega
theorem four_any (w : World) : Calls Try.prog 20 #[] w fun e w' => ∃ g, e = .returned (.slice (some ⟨g, 0, none⟩) 4 4) ∧ RR w' (· < w'.heap.size) (some ⟨g, 0, none⟩) 4 four ∧ Below w.heap.size w w' := by
  go_enter Try.func20, Try.ntmps20
  go_wp2
  go_ret
  refine ⟨_, rfl, ⟨⟨rfl, fun _ => ⟨w.heap.size, 0, rfl, by simp, fun j u hu => ?_⟩⟩, four_ok⟩, (Below.refl _ _).alloc (Nat.le_refl _) _⟩
  rw [Nat.zero_add, World.cell?_alloc_at _ _ _ _ rfl]
  exact (show ((rcs four).toArray)[j]? = some u from by simpa using hu)

set_option maxHeartbeats 800000 in
theorem works_any (w : World) : Calls Try.prog 8 #[] w fun e w' => e = .returned (.bool true) ∧ Below w.heap.size w w' := by
  go_enter Try.func8, Try.ntmps8
  go_wp2_with fail
  refine (four_any w).mono ?_
  rintro e w1 ⟨g, rfl, hF, k1⟩
  go_wp2_with fail
  refine (first_t _ 4 4 four 2 w1 hF (by decide) (by decide) (by decide) ⟨by decide, by decide⟩).mono ?_
  rintro e w2 ⟨A2, N2, c2, β2, hN2, hβ2, rfl, hc2, _, _, hR2, hB⟩
  obtain rfl : N2 = 2 := hN2
  obtain rfl : β2 = true := hβ2
  have k2 := next_below k1 hB
  have j2 : Below w1.heap.size w1 w2 := hB
  clear hB
  go_wp2_with fail
  refine (query_t _ 4 4 four 0 2 w2 ((hF.below j2).more fun _ h => Nat.lt_of_lt_of_le h j2.size) (by decide) (by decide) (by decide) four_rise ⟨by decide, by decide⟩).mono ?_
  rintro e w3 ⟨A3, N3, c3, β3, hN3, hβ3, rfl, hc3, _, _, hR3, hB⟩
  obtain rfl : N3 = 2 := hN3
  obtain rfl : β3 = false := hβ3
  have k3 := next_below k2 hB
  have j3 := next_below j2 hB
  have i3 : Below w2.heap.size w2 w3 := hB
  clear hB k2 j2
  go_wp2_with fail
  refine (query_t _ 4 4 four 9 2 w3 ((hF.below j3).more fun _ h => Nat.lt_of_lt_of_le h j3.size) (by decide) (by decide) (by decide) four_rise ⟨by decide, by decide⟩).mono ?_
  rintro e w4 ⟨A4, N4, c4, β4, hN4, hβ4, rfl, hc4, _, _, hR4, hB⟩
  obtain rfl : N4 = 0 := hN4
  obtain rfl : β4 = false := hβ4
  have k4 := next_below k3 hB
  have j4 := next_below j3 hB
  have i4 := next_below i3 hB
  have h4 : Below w3.heap.size w3 w4 := hB
  clear hB k3 j3 i3
  go_wp2_with fail
  refine (query_t _ 4 4 four (-3) 0 w4 ((hF.below j4).more fun _ h => Nat.lt_of_lt_of_le h j4.size) (by decide) (by decide) (by decide) four_rise ⟨by decide, by decide⟩).mono ?_
  rintro e w5 ⟨A5, N5, c5, β5, hN5, hβ5, rfl, hc5, _, _, hR5, hB⟩
  obtain rfl : N5 = 0 := hN5
  obtain rfl : β5 = true := hβ5
  have k5 := next_below k4 hB
  have j5 := next_below j4 hB
  have i5 := next_below i4 hB
  have h5 := next_below h4 hB
  clear hB k4 j4 i4 h4
  go_wp2_with fail
  refine (same_b _ _ A2 2 c2 (four.take 2) _ 2 4 w5 (hR2.below i5) ((hF.below j5).take (k := 2) (by decide)) (by decide)).mono ?_
  rintro e w6 ⟨rfl, hB⟩
  have k6 := next_below k5 hB
  have j6 := next_below j5 hB
  have h6 := next_below h5 hB
  clear hB k5 j5 i5 h5
  go_wp2_with fail
  have hcut : RR w6 (· < w1.heap.size) (some ⟨g, 6, none⟩) 2 (four.drop 2) := (hF.below j6).cut (k := 2) (cap := 4) (by decide) (by decide)
  refine (same_b _ _ A3 2 c3 (four.drop 2) _ 2 2 w6 (hR3.below h6) hcut (by decide)).mono ?_
  rintro e w7 ⟨rfl, hB⟩
  have k7 := next_below k6 hB
  clear hB
  go_wp2
  go_ret
  exact ⟨rfl, k7⟩

theorem spoil_below {w0 w w' : World} {base : Nat} {e : TypeId} {size : Nat} {v : Value} {n : Nat} {xs : List Value} (h : Below w0.heap.size w0 w) (hg : w.grownBy w' v.ownBlock) (hown : w.ownsRow base e size v n xs) (hb : w0.heap.size ≤ base) : Below w0.heap.size w0 w' :=
  h.grown hg h.size fun k hk => Nat.le_trans hb (hown.lt k hk).1

set_option maxHeartbeats 1600000 in
theorem tells18_walk (A : Option Addr) (n c : Nat) (l0 : List Rw) (behind most : Int) (w : World) (hb0 : RR w (· < w.heap.size) A n l0) (hl : n ≤ c) (hm : c ≤ 9223372036854775807) (hmost : I64 most) :
    Calls Try.prog 3 #[.slice A n c, .int .i64 behind, .int .i64 most] w fun e w' => e = .returned (.bool true) ∧ Below w.heap.size w w' := by
  by_cases hbig : 500 < n
  · go_enter Try.func3, Try.ntmps3
    go_wp2_with fail
    refine (works_any w).mono ?_
    rintro e w1 ⟨rfl, hB⟩
    go_wp2
    go_ret
    exact ⟨rfl, hB⟩
  · go_enter Try.func3, Try.ntmps3
    go_wp2_with fail
    refine (rising_any _ A n c l0 w hb0 (fun _ h => h) (by omega)).mono ?_
    rintro e w1 ⟨v, rfl, hown, k1⟩
    obtain ⟨hlen, hmem, hrise⟩ := rising_all l0
    rw [hb0.len] at hlen
    obtain ⟨l, hlEq⟩ : ∃ l, l = rising l0 := ⟨_, rfl⟩
    rw [← hlEq] at hown hlen hmem hrise
    clear hlEq
    obtain ⟨m, hm1⟩ : ∃ m, m = l.length := ⟨_, rfl⟩
    rw [← hm1] at hown hlen
    clear hm1
    obtain ⟨L, cl, rfl, hcl, hcl2, _⟩ := own_form hown
    have hL : RR w1 (· < w1.heap.size) L m l := ⟨(own_reads hown).more fun _ h => h.2, fun r hr => hb0.2 r (hmem r hr)⟩
    clear hown hmem hb0
    go_wp2_with fail
    refine (lentRows_any _ L m cl l w1 hL (fun _ h => h) (by omega)).mono ?_
    rintro e w2 ⟨vx, rfl, hox, hB⟩
    obtain ⟨X, cx, rfl, hcx, hcx2, _⟩ := own_form hox
    have hX : RR w2 (· < w2.heap.size) X (m + 5) (l ++ marksR 5) := ⟨(own_reads hox).more fun _ h => h.2, fun r hr => by
      rcases List.mem_append.1 hr with h | h
      · exact hL.2 r h
      · simp only [marksR, List.mem_map, List.mem_range] at h
        obtain ⟨k, hk, rfl⟩ := h
        exact markR_ok k (by omega)⟩
    have hX' : RR w2 (· < w2.heap.size) X m l := by
      have := hX.take (k := m) (by omega)
      rwa [List.take_left' hL.len] at this
    have k2 := next_below k1 hB
    have l2 : Below w1.heap.size w1 w2 := hB
    have sw2 : w.heap.size ≤ w2.heap.size := k2.size
    have sl2 : w1.heap.size ≤ w2.heap.size := l2.size
    clear hB k1 hox
    go_wp2_with fail
    refine (query_t X m cx l behind most w2 hX' (by omega) (by omega) hcx2 hrise hmost).mono ?_
    rintro e w3 ⟨Aa, Na, ca, βa, hNa, hβa, rfl, hca, _, hoa, hRa, hB⟩
    have HNa := Lib.hid hNa
    have HBa := Lib.hid hβa
    clear hNa hβa
    have k3 := next_below k2 hB
    have l3 := next_below l2 hB
    have x3 : Below w2.heap.size w2 w3 := hB
    clear hB k2 l2
    go_wp2_with fail
    refine (refQuery_t L m cl l behind most w3 ((hL.below l3).more fun _ h => Nat.lt_of_lt_of_le h l3.size) (by omega) hmost).mono ?_
    rintro e w4 ⟨Ab, Nb, cb, βb, hNb, hβb, rfl, hcb, _, _, hRb, hB⟩
    obtain rfl : Nb = Na := hNb.trans HNa.out.symm
    obtain rfl : βb = βa := hβb.trans HBa.out.symm
    clear hNb hβb
    have k4 := next_below k3 hB
    have l4 := next_below l3 hB
    have x4 := next_below x3 hB
    have a4 : Below w3.heap.size w3 w4 := hB
    have sa4 : w3.heap.size ≤ w4.heap.size := a4.size
    have sx4 : w2.heap.size ≤ w4.heap.size := x4.size
    clear hB k3 l3 x3
    go_wp2_with fail
    refine (first_t X m cx l most w4 ((hX'.below x4).more fun _ h => Nat.lt_of_lt_of_le h x4.size) (by omega) (by omega) hcx2 hmost).mono ?_
    rintro e w5 ⟨Ac, Nc, cc, βc, hNc, hβc, rfl, hcc, _, hoc, hRc, hB⟩
    have HNc := Lib.hid hNc
    have HBc := Lib.hid hβc
    clear hNc hβc
    have k5 := next_below k4 hB
    have l5 := next_below l4 hB
    have x5 := next_below x4 hB
    have a5 := next_below a4 hB
    have b5 : Below w4.heap.size w4 w5 := hB
    clear hB k4 l4 x4 a4
    go_wp2_with fail
    refine (refFirst_t L m cl l most w5 ((hL.below l5).more fun _ h => Nat.lt_of_lt_of_le h l5.size) (by omega) hmost).mono ?_
    rintro e w6 ⟨Ad, Nd, cd, βd, hNd, hβd, rfl, hcd, _, _, hRd, hB⟩
    obtain rfl : Nd = Nc := hNd.trans HNc.out.symm
    obtain rfl : βd = βc := hβd.trans HBc.out.symm
    clear hNd hβd
    have k6 := next_below k5 hB
    have l6 := next_below l5 hB
    have x6 := next_below x5 hB
    have a6 := next_below a5 hB
    have b6 := next_below b5 hB
    have c6 : Below w5.heap.size w5 w6 := hB
    have hNa1 : Nb ≤ 500 := by rw [HNa.out, firstN]; exact Nat.le_trans (Nat.min_le_right _ _) (Nat.le_trans (behindL_le _ _) (by rw [hL.len]; omega))
    have hNc1 : Nd ≤ 500 := by rw [HNc.out, firstN]; exact Nat.le_trans (Nat.min_le_right _ _) (by rw [hL.len]; omega)
    clear hB k5 l5 x5 a5 b5
    go_wp2_with fail
    refine (same_b _ _ Aa Nb ca _ Ab Nb cb w6 (hRa.below a6) (hRb.below b6) (by omega)).mono ?_
    rintro e w7 ⟨rfl, hB⟩
    have k7 := next_below k6 hB
    have l7 := next_below l6 hB
    have x7 := next_below x6 hB
    have a7 := next_below a6 hB
    have c7 := next_below c6 hB
    have d7 : Below w6.heap.size w6 w7 := hB
    clear hB k6 l6 x6 a6 b6 c6
    go_wp2_with fail
    refine (same_b _ _ Ac Nd cc _ Ad Nd cd w7 (hRc.below c7) (hRd.below d7) (by omega)).mono ?_
    rintro e w8 ⟨rfl, hB⟩
    have k8 := next_below k7 hB
    have l8 := next_below l7 hB
    have x8 := next_below x7 hB
    have a8 := next_below a7 hB
    have c8 := next_below c7 hB
    have hoa8 := below_own hoa a8
    have hoc8 := below_own hoc c8
    clear hB k7 l7 x7 a7 c7 d7
    go_wp2_with fail
    refine (spoilRows_own _ _ _ _ w8 hoa8 (by omega)).mono ?_
    rintro e w9 ⟨⟨r9, rfl⟩, hg9⟩
    have k9 := spoil_below k8 hg9 hoa8 sw2
    have l9 := spoil_below l8 hg9 hoa8 sl2
    have x9 := spoil_below x8 hg9 hoa8 (Nat.le_refl _)
    have hoc9 : w9.ownsRow w4.heap.size 34 3 (.slice Ac Nd cc) Nd _ := hoc8.kept hg9 (by
      rcases hv : (Value.slice Ac Nd cc).ownBlock with _ | b
      · exact .inl rfl
      · refine .inr fun e => ?_
        have h1 := (hoc8.lt b hv).1
        have h2 := (hoa.lt b e.symm).2
        omega)
    clear k8 l8 x8 a8 c8 hoa8 hoc8 hg9
    go_wp2_with fail
    refine (spoilRows_own _ _ _ _ w9 hoc9 (by omega)).mono ?_
    rintro e w10 ⟨⟨r10, rfl⟩, hg10⟩
    have k10 := spoil_below k9 hg10 hoc9 (Nat.le_trans sw2 sx4)
    have l10 := spoil_below l9 hg10 hoc9 (Nat.le_trans sl2 sx4)
    have x10 := spoil_below x9 hg10 hoc9 sx4
    clear k9 l9 x9 hoc9 hg10 hoa hoc
    go_wp2_with fail
    refine (keptRows_yes _ _ X m cx l L cl w10 ((hX.below x10).more fun _ h => Nat.lt_of_lt_of_le h x10.size) (hL.below l10) (fun _ h => h) (by omega) hcx hcx2).mono ?_
    rintro e w11 ⟨rfl, hB⟩
    have k11 := next_below k10 hB
    clear hB k10 l10 x10
    go_wp2_with fail
    refine (works_any w11).mono ?_
    rintro e w12 ⟨rfl, hB⟩
    have k12 := next_below k11 hB
    clear hB k11
    go_wp2
    go_ret
    exact ⟨rfl, k12⟩
end Go.Proofs.Ytgmbfjlobnmhdaa
