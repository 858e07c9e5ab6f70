/- The walk of the statement PageStays. -/
import Derived.Test.YtgmbfjlobnmhdaaStaysM
import Derived.Test.YtgmbfjlobnmhdaaPick
import Derived.Deep.CutRange
namespace Go.Proofs.Ytgmbfjlobnmhdaa
open Go.RowKit

set_option maxHeartbeats 3200000 in
set_option maxRecDepth 100000 in
theorem stays_walk (A : Option Addr) (n0 c0 : Nat) (l0 : List Rw) (kn kg : Int) (c : Rw) (w : World) (hb0 : RR w (· < w.heap.size) A n0 l0) (hkn : I64 kn) (hkg0 : I64 kg) (hco : RwOk c) :
    Calls Try.prog 5 #[.slice A n0 c0, .int .i64 kn, .int .i64 kg, .agg #[.int .i64 c.1, .int .i64 c.2.1, .int .i64 c.2.2]] w fun e w' => e = .returned (.bool true) ∧ Below w.heap.size w w' := by
  by_cases hbig : 500 < n0
  · have hbg : decide (500 < (n0 : Int)) = true := by simp; omega
    go_enter Try.func5, Try.ntmps5
    go_wp2_with fail
    refine (works_any _).mono ?_
    rintro e w1 ⟨rfl, hB⟩
    have k1 := next_below ((Below.refl _ w).alloc (Nat.le_refl _) _) hB
    go_wp2
    go_ret
    exact ⟨rfl, k1⟩
  · have hbg : decide (500 < (n0 : Int)) = false := by simp; omega
    go_enter Try.func5, Try.ntmps5
    go_wp2_with fail
    obtain ⟨g0, hg0⟩ : ∃ g, g = w.heap.size := ⟨_, rfl⟩
    obtain ⟨w0, hw0⟩ : ∃ w0, w0 = w.alloc (.cells #[.int .i64 c.1, .int .i64 c.2.1, .int .i64 c.2.2] 34) := ⟨_, rfl⟩
    have e0 : w0.cell? ⟨g0, 0, none⟩ = some (.int .i64 c.1) := by rw [hw0, hg0, World.cell?_alloc_new]; rfl
    have e1 : w0.cell? ⟨g0, 1, none⟩ = some (.int .i64 c.2.1) := by rw [hw0, hg0, World.cell?_alloc_new]; rfl
    have e2 : w0.cell? ⟨g0, 2, none⟩ = some (.int .i64 c.2.2) := by rw [hw0, hg0, World.cell?_alloc_new]; rfl
    have k0 : Below w.heap.size w w0 := by rw [hw0]; exact (Below.refl _ w).alloc (Nat.le_refl _) _
    have hgw : g0 < w0.heap.size := World.block_lt_of_cell? _ _ e0
    rw [← hw0, ← hg0]
    have hb := (hb0.below k0).more (Q := (· < w0.heap.size)) fun _ h => Nat.lt_of_lt_of_le h k0.size
    clear hw0 hg0
    refine (rising_any _ A n0 c0 l0 w0 hb (fun _ h => h) (by omega)).mono ?_
    rintro e w1 ⟨v, rfl, hown, hB⟩
    obtain ⟨hlen, hmem, hrise⟩ := rising_all l0
    rw [hb0.len] at hlen
    obtain ⟨l, hlEq⟩ : ∃ l, l = rising l0 := ⟨_, rfl⟩
    rw [← hlEq] at hown hlen hmem hrise
    clear hlEq
    obtain ⟨m, hm1⟩ : ∃ m, m = l.length := ⟨_, rfl⟩
    rw [← hm1] at hown hlen
    clear hm1
    obtain ⟨L, cl, rfl, hcl, hcl2, _⟩ := own_form hown
    have hL : RR w1 (· < w1.heap.size) L m l := ⟨(own_reads hown).more fun _ h => h.2, fun r hr => hb0.2 r (hmem r hr)⟩
    have k1 := next_below k0 hB
    have c1 : Below w0.heap.size w0 w1 := hB
    clear hown hmem hb0 hb hB k0
    go_wp2_with fail
    refine (pick_pos kn 50 w1 (by decide) (by decide) hkn.1 hkn.2).mono ?_
    rintro e _ ⟨rfl, rfl⟩
    obtain ⟨y0, hy⟩ : ∃ y, y = kn % 50 := ⟨_, rfl⟩
    have hy1 : 0 ≤ y0 := by rw [hy]; exact Int.emod_nonneg _ (by decide)
    have hy2 : y0 < 50 := by rw [hy]; exact Int.emod_lt_of_pos _ (by decide)
    rw [← hy]
    clear hy
    go_wp2_with fail
    refine (first_t L m cl l (1 + y0) w1 hL (by omega) hcl hcl2 ⟨by omega, by omega⟩).mono ?_
    rintro e w2 ⟨Aa, N, ca, βa, hNa, hβa, rfl, hca, hca2, hoa, hRa, hB⟩
    rw [hL.len] at hNa hβa
    have hN1 : N ≤ m := by rw [hNa]; exact Nat.min_le_right _ _
    have hN2 : N < m → 1 ≤ N := by rw [hNa, firstN]; omega
    have k2 := next_below k1 hB
    have c2 := next_below c1 hB
    have l2 : Below w1.heap.size w1 w2 := hB
    clear hNa hB k1 c1
    by_cases hm : m ≤ N
    · obtain rfl : N = m := by omega
      obtain rfl : βa = false := by rw [hβa]; simp
      clear hβa hm hN1 hN2
      have e : l.take N = l := List.take_of_length_le (Nat.le_of_eq hL.len)
      rw [e] at hRa
      clear e
      go_wp2_with fail
      refine (same_b _ _ Aa N ca _ L N cl w2 hRa (hL.below l2) (by omega)).mono ?_
      rintro e w6 ⟨rfl, hB⟩
      have k6 := next_below k2 hB
      clear hB k2
      go_wp2_with fail
      refine (works_any w6).mono ?_
      rintro e w7 ⟨rfl, hB⟩
      have k7 := next_below k6 hB
      go_wp2
      go_ret
      exact ⟨rfl, k7⟩
    obtain rfl : βa = true := by rw [hβa]; simp; omega
    obtain ⟨M, rfl⟩ : ∃ M, N = M + 1 := ⟨N - 1, by have := hN2 (by omega); omega⟩
    clear hβa hN2
    have ht0 : ((M : Int) + 1 == 0) = false := by simp; omega
    go_wp2_with fail
    refine (pick_pos kg m w2 (by omega) (by omega) hkg0.1 hkg0.2).mono ?_
    rintro e _ ⟨rfl, rfl⟩
    obtain ⟨gn, hgn, hgn2⟩ : ∃ g : Nat, kg % (m : Int) = (g : Int) ∧ g < m := by
      have h1 := Int.emod_nonneg kg (show (m : Int) ≠ 0 by omega)
      have h2 := Int.emod_lt_of_pos kg (show 0 < (m : Int) by omega)
      exact ⟨(kg % (m : Int)).toNat, by omega, by omega⟩
    rw [hgn]
    clear hgn ht0
    go_wp2_with fail
    go_loopw [11, 12, 13] (fun s11 s12 s13 wr => ∃ (k : Nat) (X : List Rw) (β : Bool), k ≤ m ∧ s13 = .int .i64 k ∧ s12 = .bool β ∧ wr.ownsRow w2.heap.size 34 3 s11 X.length (rcs X) ∧ Laid l gn c k X β ∧ Below w2.heap.size w2 wr) (fun _ _ i _ => m - (intOf i).toNat)
    case atStart => exact ⟨0, [], false, by omega, rfl, rfl, World.ownsRow_nil _ _ _ _, Laid.zero _ _ _, Below.refl _ _⟩
    case round =>
      obtain ⟨k, X, β, hk, rfl, rfl, hown, hlaid, hBr⟩ := hrel
      by_cases hlt : k < m
      rotate_left
      · obtain rfl : m = k := by omega
        obtain ⟨G, cg, rfl, hcg, hcg2, _⟩ := own_form hown
        have hsz' : w2.heap.size ≤ wr.heap.size := hBr.size
        have hXl : X.length ≤ 501 := by have := hlaid.2.2.1; omega
        have hX : RR wr (· < wr.heap.size) G X.length X := ⟨(own_reads hown).more fun _ h => h.2, hlaid.2.1⟩
        obtain ⟨b1, o1, r, rfl, _, hx, hro, hd0, _, _⟩ := (hRa.below hBr).cell (k := M) (by omega)
        have hxl : l[M]? = some r := by rw [List.getElem?_take, if_pos (by omega)] at hx; exact hx
        have htold := fun (i : Nat) (y : Rw) (hy : l[i]? = some y) => hlaid.told hrise hL.len (by omega) hxl hy
        have hw1 : IntKind.i64.wrap ((M : Int) + 1 - 1) = (M : Int) := (IntWalk.i64_in _ (by omega)).trans (by omega)
        have hj1 : (0 : Int) ≤ (M : Int) := by omega
        have hj2 : (M : Int) < (M : Int) + 1 := by omega
        obtain ⟨D, hD⟩ : ∃ D, D = behindL X r.1 := ⟨_, rfl⟩
        have hDl : D.length ≤ 501 := by rw [hD]; have := behindL_le X r.1; omega
        have HD := Lib.hid hD
        have kr := next_below k2 hBr
        have cr := next_below c2 hBr
        have lr := next_below l2 hBr
        have hRr := hRa.below hBr
        clear hD hx hxl hown
        go_wp2_with fail
        refine (query_t G X.length cg X r.1 1000 wr hX (by omega) hcg hcg2 hlaid.1 ⟨by decide, by decide⟩).mono ?_
        rintro e w3 ⟨A1, N1, c1, β1, hN1, hβ1, rfl, hc1, hc1', _, hR1, hB⟩
        rw [← HD.out] at hN1 hβ1 hR1
        have e1' : N1 = D.length := by rw [hN1, firstN]; exact Nat.min_eq_right (by have : (1000 : Int).toNat = 1000 := rfl; omega)
        obtain rfl : β1 = false := by rw [hβ1]; simp; omega
        subst e1'
        rw [List.take_length] at hR1
        have k3 := next_below kr hB
        have c3 := next_below cr hB
        have l3 := next_below lr hB
        have hR3 := (hRr.below (hB.mono hsz')).more (Q := (· < w3.heap.size)) fun _ h => Nat.lt_of_lt_of_le h (Nat.le_trans hsz' hB.size)
        clear hN1 hβ1 hB kr cr lr hX hd0 hw1 hRr hRa
        go_wp2_with fail
        refine (copyRows_any _ _ (M + 1) ca (l.take (M + 1)) w3 hR3 (fun _ h => h) (by omega)).mono ?_
        rintro e w4 ⟨v4, rfl, hown4, hB⟩
        have k4 := next_below k3 hB
        have c4 := next_below c3 hB
        have l4 := next_below l3 hB
        have hR4 := hR1.below hB
        have hsz4 : w3.heap.size ≤ w4.heap.size := hB.size
        have z1 : w.heap.size ≤ w3.heap.size := k3.size
        have z2 : w0.heap.size ≤ w3.heap.size := c3.size
        have z3 : w1.heap.size ≤ w3.heap.size := l3.size
        clear hB k3 c3 l3 hR1 hR3
        go_wp2_with (at_builtin; (refine wpList_appN _ rfl _ _ 22 rfl w3.heap.size 34 (.agg #[.int .i64 0, .int .i64 0, .int .i64 0]) 3 24 Try.underlying22 infoRow rfl (by decide) _ (M + 1) _ hown4 rfl _ _ D.length c1 _ hR4.1 rfl (rcs_one _) (by omega) (by omega) hsz4 ?_); intro v5 w5 hown5 _ hb5 _)
        rw [← rcs_append] at hown5
        obtain ⟨T, hT⟩ : ∃ T, T = l.take (M + 1) ++ D := ⟨_, rfl⟩
        obtain ⟨tn, htn⟩ : ∃ tn, tn = M + 1 + D.length := ⟨_, rfl⟩
        have hTo : ∀ r ∈ T, RwOk r := by
          intro r hr
          rw [hT] at hr
          rcases List.mem_append.1 hr with h | h
          · exact hL.2 r (List.mem_of_mem_take h)
          · rw [HD.out] at h; exact hlaid.2.1 r (List.mem_filter.1 h).1
        have htold2 : ∀ (i : Nat) (y : Rw), l[i]? = some y → cnt y T ≤ 1 ∧ (i ≠ gn → cnt y T = 1) := by rw [hT, HD.out]; exact htold
        have htn2 : tn ≤ 2000 := by omega
        rw [← hT, ← htn] at hown5
        obtain ⟨Z, cz, rfl, hcz, hcz2, _⟩ := own_form hown5
        have hZ : RR w5 (· < w5.heap.size) Z tn T := ⟨(own_reads hown5).more fun _ h => h.2, hTo⟩
        have k5 := k4.trans (hb5.mono z1)
        have c5 := c4.trans (hb5.mono z2)
        have l5 := l4.trans (hb5.mono z3)
        have hL5 := hL.below l5
        have e0 := (c5.cell (p := ⟨g0, _, none⟩) hgw).trans e0
        have e1 := (c5.cell (p := ⟨g0, _, none⟩) hgw).trans e1
        have e2 := (c5.cell (p := ⟨g0, _, none⟩) hgw).trans e2
        clear hT htn hTo htold hown5 hown4 hb5 k4 c4 l4 hR4 z1 z2 z3 HD hlaid
        go_wp2
        go_loopw [17] (fun i wr => ∃ (k q : Nat), k ≤ m ∧ i = .int .i64 k ∧ wr = w5.drewN q) (fun i _ => m - (intOf i).toNat)
        case atStart => exact ⟨0, 0, by omega, rfl, rfl⟩
        case round =>
          obtain ⟨k, q, hk, rfl, rfl⟩ := hrel
          obtain ⟨wo, hwo⟩ : ∃ wo : World, wo = w5.drewN q := ⟨_, rfl⟩
          by_cases hlt : k < m
          · obtain ⟨b1, o1, y, rfl, _, hx, _, hd0, hd1, hd2⟩ := hL5.cell hlt
            obtain ⟨hC1, hC2⟩ := htold2 k y hx
            have HC1 := Lib.hid hC1
            have HC2 := Lib.hid hC2
            clear hx hC1 hC2
            go_wp2
            go_loopw [18, 19] (fun t i wr => ∃ (j q : Nat), j ≤ tn ∧ i = .int .i64 j ∧ t = .int .i64 (cnt y (T.take j) : Nat) ∧ wr = w5.drewN q) (fun _ i _ => tn - (intOf i).toNat)
            case atStart => exact ⟨0, q, by omega, rfl, rfl, rfl⟩
            case round =>
              obtain ⟨j, q, hj, rfl, rfl, rfl⟩ := hrel
              obtain ⟨C, hC⟩ : ∃ C, C = cnt y (T.take j) := ⟨_, rfl⟩
              have hCj : C ≤ j := by
                rw [hC]; unfold cnt
                exact Nat.le_trans (List.length_filter_le _ _) (by simp; omega)
              rw [← hC]
              by_cases hjt : j < tn
              · obtain ⟨b2, o2, x, rfl, _, hx, _, hf0, hf1, hf2⟩ := hZ.cell hjt
                have hs := cnt_snoc y x (T.take j)
                rw [← take_succ_get T j x hx, ← hC] at hs
                have heq := equalRow x y
                by_cases hxy : x = y
                · have hdec : decide (x = y) = true := by simp [hxy]
                  rw [hdec] at heq
                  rw [if_pos hxy] at hs
                  have HS := Lib.hid hs
                  clear hdec hx hs hxy hC
                  go_wp2
                  go_quiet (fail)
                  go_wp2
                  go_roundw
                  case rel => exact ⟨j + 1, _, by omega, by go_num, by rw [HS.out]; go_num, rfl⟩
                  case measure => simp [intOf]; omega
                · have hdec : decide (x = y) = false := by simp [hxy]
                  rw [hdec] at heq
                  rw [if_neg hxy, Nat.add_zero] at hs
                  have HS := Lib.hid hs
                  clear hdec hx hs hxy hC
                  go_wp2
                  go_quiet (fail)
                  go_wp2
                  go_roundw
                  case rel => exact ⟨j + 1, _, by omega, by go_num, by rw [HS.out]; rfl, rfl⟩
                  case measure => simp [intOf]; omega
              · obtain rfl : j = tn := by omega
                rw [List.take_of_length_le (Nat.le_of_eq hZ.len)] at hC
                have hC1 := HC1.out
                have hC2 := HC2.out
                rw [← hC] at hC1 hC2
                have hc1 : decide (1 < (C : Int)) = false := by simp; omega
                clear hC HC1 HC2
                by_cases hkg : k = gn
                · subst hkg
                  have HH := Lib.hid hC2
                  clear hC2
                  go_wp2
                  go_quiet (fail)
                  go_wp2
                  go_roundw
                  case rel => exact ⟨k + 1, _, by omega, by go_num, rfl⟩
                  case measure => simp [intOf]; omega
                · obtain rfl : C = 1 := hC2 hkg
                  have hkn : ((k : Int) != (gn : Int)) = true := by simp; omega
                  have heq := equalRow y c
                  clear hC1 hC2
                  by_cases hyc : y = c
                  · have hdec : decide (y = c) = true := by simp [hyc]
                    rw [hdec] at heq
                    clear hdec hyc
                    go_wp2
                    go_quiet (fail)
                    go_wp2
                    go_roundw
                    case rel => exact ⟨k + 1, _, by omega, by go_num, rfl⟩
                    case measure => simp [intOf]; omega
                  · have hdec : decide (y = c) = false := by simp [hyc]
                    rw [hdec] at heq
                    clear hdec hyc
                    go_wp2
                    go_quiet (fail)
                    go_wp2
                    go_roundw
                    case rel => exact ⟨k + 1, _, by omega, by go_num, rfl⟩
                    case measure => simp [intOf]; omega
          · obtain rfl : k = m := by omega
            have k6 := below_drewN k5 q
            go_wp2_with fail
            refine (works_any _).mono ?_
            rintro e w7 ⟨rfl, hB⟩
            have k7 := next_below k6 hB
            go_wp2
            go_ret
            exact ⟨rfl, k7⟩
      have hlen0 : X.length ≤ 501 := by have := hlaid.2.2.1; omega
      have hsz : w2.heap.size ≤ wr.heap.size := hBr.size
      obtain ⟨b1, o1, y, rfl, hb1, hx, hyo, hd0, hd1, hd2⟩ := (hL.below (next_below l2 hBr)).cell hlt
      have hb1 : b1 < w2.heap.size := Nat.lt_of_lt_of_le hb1 l2.size
      have hg2 : g0 < w2.heap.size := Nat.lt_of_lt_of_le hgw c2.size
      have e0 := ((next_below c2 hBr).cell (p := ⟨g0, _, none⟩) hgw).trans e0
      have e1 := ((next_below c2 hBr).cell (p := ⟨g0, _, none⟩) hgw).trans e1
      have e2 := ((next_below c2 hBr).cell (p := ⟨g0, _, none⟩) hgw).trans e2
      have HX := Lib.hid hx
      clear hx hRa hoa
      rcases β with _ | _
      · by_cases hlt2 : c.1 < y.1
        · have hne : ¬ c.1 = y.1 := by omega
          by_cases hkg : k = gn
          · subst hkg
            go_wp2
            go_quiet (fail)
            go_wp2_with (at_builtin; (refine wpList_app1 _ #[.int .i64 c.1, .int .i64 c.2.1, .int .i64 c.2.2] rfl _ _ 22 rfl w2.heap.size 34 (.agg #[.int .i64 0, .int .i64 0, .int .i64 0]) 3 24 Try.underlying22 infoRow rfl (by decide) _ X.length _ (own_drewN hown _) rfl rfl rfl (rcs_one [c]) (by omega) (by omega) hsz ?_); intro g1 cap1 wa hown1 _ hba _ _)
            have hown1' : wa.ownsRow w2.heap.size 34 3 (.slice (some ⟨g1, 0, none⟩) (X.length + 1) cap1) (X ++ [c]).length (rcs (X ++ [c])) := by rw [rcs_append, List.length_append]; exact hown1
            clear hown1 hown
            have hBa := (below_drewN hBr _).trans hba
            have hsza : w2.heap.size ≤ wa.heap.size := hBa.size
            have hla := hlaid.come hrise HX.out hco hlt2
            generalize X ++ [c] = Xa at hown1' hla
            have hlen1 : Xa.length ≤ 502 := by have := hla.2.2.1; omega
            have f0 : wa.cell? ⟨b1, o1 + k * 3, none⟩ = some (.int .i64 y.1) := (hba.cell (p := ⟨b1, _, none⟩) hb1).trans hd0
            have f1 : wa.cell? ⟨b1, o1 + k * 3 + 1, none⟩ = some (.int .i64 y.2.1) := (hba.cell (p := ⟨b1, _, none⟩) hb1).trans hd1
            have f2 : wa.cell? ⟨b1, o1 + k * 3 + 2, none⟩ = some (.int .i64 y.2.2) := (hba.cell (p := ⟨b1, _, none⟩) hb1).trans hd2
            have j0 : wa.cell? ⟨g0, 0, none⟩ = some (.int .i64 c.1) := (hba.cell (p := ⟨g0, _, none⟩) hg2).trans e0
            clear hba hd0 hd1 hd2 e0 e1 e2
            go_wp2
            go_quiet (fail)
            go_wp2
            go_roundw
            case rel => exact ⟨k + 1, Xa, true, by omega, by go_num, rfl, own_drewN hown1' _, hla.stay hrise HX.out hyo (fun e => by cases e) true (by simp [*]) _ (by rw [if_pos rfl]), below_drewN hBa _⟩
            case measure => simp [intOf]; omega
          · go_wp2
            go_quiet (fail)
            go_wp2_with (at_builtin; (refine wpList_app1 _ #[.int .i64 c.1, .int .i64 c.2.1, .int .i64 c.2.2] rfl _ _ 22 rfl w2.heap.size 34 (.agg #[.int .i64 0, .int .i64 0, .int .i64 0]) 3 24 Try.underlying22 infoRow rfl (by decide) _ X.length _ (own_drewN hown _) rfl rfl rfl (rcs_one [c]) (by omega) (by omega) hsz ?_); intro g1 cap1 wa hown1 _ hba _ _)
            have hown1' : wa.ownsRow w2.heap.size 34 3 (.slice (some ⟨g1, 0, none⟩) (X.length + 1) cap1) (X ++ [c]).length (rcs (X ++ [c])) := by rw [rcs_append, List.length_append]; exact hown1
            clear hown1 hown
            have hBa := (below_drewN hBr _).trans hba
            have hsza : w2.heap.size ≤ wa.heap.size := hBa.size
            have hla := hlaid.come hrise HX.out hco hlt2
            generalize X ++ [c] = Xa at hown1' hla
            have hlen1 : Xa.length ≤ 502 := by have := hla.2.2.1; omega
            have f0 : wa.cell? ⟨b1, o1 + k * 3, none⟩ = some (.int .i64 y.1) := (hba.cell (p := ⟨b1, _, none⟩) hb1).trans hd0
            have f1 : wa.cell? ⟨b1, o1 + k * 3 + 1, none⟩ = some (.int .i64 y.2.1) := (hba.cell (p := ⟨b1, _, none⟩) hb1).trans hd1
            have f2 : wa.cell? ⟨b1, o1 + k * 3 + 2, none⟩ = some (.int .i64 y.2.2) := (hba.cell (p := ⟨b1, _, none⟩) hb1).trans hd2
            have j0 : wa.cell? ⟨g0, 0, none⟩ = some (.int .i64 c.1) := (hba.cell (p := ⟨g0, _, none⟩) hg2).trans e0
            clear hba hd0 hd1 hd2 e0 e1 e2
            go_wp2
            go_quiet (fail)
            go_wp2_with (at_builtin; (refine wpList_app1 _ #[.int .i64 y.1, .int .i64 y.2.1, .int .i64 y.2.2] rfl _ _ 22 rfl w2.heap.size 34 (.agg #[.int .i64 0, .int .i64 0, .int .i64 0]) 3 24 Try.underlying22 infoRow rfl (by decide) _ Xa.length _ (own_drewN hown1' _) rfl rfl rfl (rcs_one [y]) (by omega) (by omega) hsza ?_); intro g5 cap5 w5 hown5 _ hb5 _ _)
            have hown5' : w5.ownsRow w2.heap.size 34 3 (.slice (some ⟨g5, 0, none⟩) (Xa.length + 1) cap5) (Xa ++ [y]).length (rcs (Xa ++ [y])) := by rw [rcs_append, List.length_append]; exact hown5
            clear hown5
            go_wp2
            go_roundw
            case rel => exact ⟨k + 1, Xa ++ [y], true, by omega, by go_num, rfl, hown5', hla.stay hrise HX.out hyo (fun e => by cases e) true (by simp [*]) _ (by rw [if_neg hkg]), (below_drewN hBa _).trans hb5⟩
            case measure => simp [intOf]; omega
        · by_cases heq : c.1 = y.1
          · have hde : decide (c.1 = y.1) = true := by simp [heq]
            have hde2 : (c.1 == y.1) = true := by simp [heq]
            have HE := Lib.hid heq
            clear heq
            by_cases hkg : k = gn
            · subst hkg
              go_wp2
              go_quiet (fail)
              go_wp2
              go_quiet (fail)
              go_wp2
              go_roundw
              case rel => exact ⟨k + 1, X, true, by omega, by go_num, rfl, own_drewN hown _, hlaid.stay hrise HX.out hyo (fun _ => by omega) true (by simp [*]) _ (by rw [if_pos rfl]), below_drewN hBr _⟩
              case measure => simp [intOf]; omega
            · go_wp2
              go_quiet (fail)
              go_wp2
              go_quiet (fail)
              go_wp2_with (at_builtin; (refine wpList_app1 _ #[.int .i64 y.1, .int .i64 y.2.1, .int .i64 y.2.2] rfl _ _ 22 rfl w2.heap.size 34 (.agg #[.int .i64 0, .int .i64 0, .int .i64 0]) 3 24 Try.underlying22 infoRow rfl (by decide) _ X.length _ (own_drewN hown _) rfl rfl rfl (rcs_one [y]) (by omega) (by omega) hsz ?_); intro g5 cap5 w5 hown5 _ hb5 _ _)
              have hown5' : w5.ownsRow w2.heap.size 34 3 (.slice (some ⟨g5, 0, none⟩) (X.length + 1) cap5) (X ++ [y]).length (rcs (X ++ [y])) := by rw [rcs_append, List.length_append]; exact hown5
              clear hown5
              go_wp2
              go_roundw
              case rel => exact ⟨k + 1, X ++ [y], true, by omega, by go_num, rfl, hown5', hlaid.stay hrise HX.out hyo (fun _ => by omega) true (by simp [*]) _ (by rw [if_neg hkg]), (below_drewN hBr _).trans hb5⟩
              case measure => simp [intOf]; omega
          · have hde2 : (c.1 == y.1) = false := by simp [heq]
            by_cases hkg : k = gn
            · subst hkg
              go_wp2
              go_quiet (fail)
              go_wp2
              go_quiet (fail)
              go_wp2
              go_roundw
              case rel => exact ⟨k + 1, X, false, by omega, by go_num, rfl, own_drewN hown _, hlaid.stay hrise HX.out hyo (fun _ => by omega) false (by simp [*]) _ (by rw [if_pos rfl]), below_drewN hBr _⟩
              case measure => simp [intOf]; omega
            · go_wp2
              go_quiet (fail)
              go_wp2
              go_quiet (fail)
              go_wp2_with (at_builtin; (refine wpList_app1 _ #[.int .i64 y.1, .int .i64 y.2.1, .int .i64 y.2.2] rfl _ _ 22 rfl w2.heap.size 34 (.agg #[.int .i64 0, .int .i64 0, .int .i64 0]) 3 24 Try.underlying22 infoRow rfl (by decide) _ X.length _ (own_drewN hown _) rfl rfl rfl (rcs_one [y]) (by omega) (by omega) hsz ?_); intro g5 cap5 w5 hown5 _ hb5 _ _)
              have hown5' : w5.ownsRow w2.heap.size 34 3 (.slice (some ⟨g5, 0, none⟩) (X.length + 1) cap5) (X ++ [y]).length (rcs (X ++ [y])) := by rw [rcs_append, List.length_append]; exact hown5
              clear hown5
              go_wp2
              go_roundw
              case rel => exact ⟨k + 1, X ++ [y], false, by omega, by go_num, rfl, hown5', hlaid.stay hrise HX.out hyo (fun _ => by omega) false (by simp [*]) _ (by rw [if_neg hkg]), (below_drewN hBr _).trans hb5⟩
              case measure => simp [intOf]; omega
      · by_cases hkg : k = gn
        · subst hkg
          go_wp2
          go_quiet (fail)
          go_wp2
          go_quiet (fail)
          go_wp2
          go_roundw
          case rel => exact ⟨k + 1, X, true, by omega, by go_num, rfl, own_drewN hown _, hlaid.stay hrise HX.out hyo (fun e => by cases e) true (by simp [*]) _ (by rw [if_pos rfl]), below_drewN hBr _⟩
          case measure => simp [intOf]; omega
        · go_wp2
          go_quiet (fail)
          go_wp2
          go_quiet (fail)
          go_wp2_with (at_builtin; (refine wpList_app1 _ #[.int .i64 y.1, .int .i64 y.2.1, .int .i64 y.2.2] rfl _ _ 22 rfl w2.heap.size 34 (.agg #[.int .i64 0, .int .i64 0, .int .i64 0]) 3 24 Try.underlying22 infoRow rfl (by decide) _ X.length _ (own_drewN hown _) rfl rfl rfl (rcs_one [y]) (by omega) (by omega) hsz ?_); intro g5 cap5 w5 hown5 _ hb5 _ _)
          have hown5' : w5.ownsRow w2.heap.size 34 3 (.slice (some ⟨g5, 0, none⟩) (X.length + 1) cap5) (X ++ [y]).length (rcs (X ++ [y])) := by rw [rcs_append, List.length_append]; exact hown5
          clear hown5
          go_wp2
          go_roundw
          case rel => exact ⟨k + 1, X ++ [y], true, by omega, by go_num, rfl, hown5', hlaid.stay hrise HX.out hyo (fun e => by cases e) true (by simp [*]) _ (by rw [if_neg hkg]), (below_drewN hBr _).trans hb5⟩
          case measure => simp [intOf]; omega
end Go.Proofs.Ytgmbfjlobnmhdaa
