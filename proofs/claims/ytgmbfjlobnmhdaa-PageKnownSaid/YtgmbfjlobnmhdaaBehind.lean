/- Plain laws of what stands behind a group in rows that rise; the walk of the statement PageBehind. -/
import Derived.Test.YtgmbfjlobnmhdaaTells18
namespace Go.Proofs.Ytgmbfjlobnmhdaa
open Go.RowKit

theorem Rise.tail {r : Rw} {l : List Rw} (h : Rise (r :: l)) : Rise l := fun i j x y hij hx hy => h (i + 1) (j + 1) x y (by omega) (by simpa using hx) (by simpa using hy)
/-- What stands behind a group is what stands from some place on. -/
theorem behind_drop {l : List Rw} (h : Rise l) (b : Int) : ∃ k, k ≤ l.length ∧ behindL l b = l.drop k ∧ (∀ i r, i < k → l[i]? = some r → r.1 ≤ b) ∧ (∀ i r, k ≤ i → l[i]? = some r → b < r.1) := by
  suffices hs : ∃ k, k ≤ l.length ∧ (∀ i r, i < k → l[i]? = some r → r.1 ≤ b) ∧ (∀ i r, k ≤ i → l[i]? = some r → b < r.1) by
    obtain ⟨k, h0, h1, h2⟩ := hs
    exact ⟨k, h0, (drop_behind h1 h2).symm, h1, h2⟩
  induction l with
  | nil => exact ⟨0, Nat.le_refl _, fun i r hi => absurd hi (by omega), fun i r _ hr => by simp at hr⟩
  | cons a l ih =>
    by_cases ha : b < a.1
    · refine ⟨0, by omega, fun i r hi => absurd hi (by omega), fun i r _ hr => ?_⟩
      rcases i with _ | i
      · simp at hr; subst hr; exact ha
      · have := h 0 (i + 1) a r (by omega) rfl hr; omega
    · obtain ⟨k, h0, h1, h2⟩ := ih h.tail
      refine ⟨k + 1, by simpa using h0, fun i r hi hr => ?_, fun i r hi hr => ?_⟩
      · rcases i with _ | i
        · simp at hr; subst hr; omega
        · exact h1 i r (by omega) (by simpa using hr)
      · rcases i with _ | i
        · omega
        · exact h2 i r (by omega) (by simpa using hr)
theorem behind_suffix {l : List Rw} (h : Rise l) {b b' : Int} (hb : b' ≤ b) : (behindL l b).length ≤ (behindL l b').length ∧ (behindL l b').drop ((behindL l b').length - (behindL l b).length) = behindL l b := by
  obtain ⟨k, h0, e, h1, h2⟩ := behind_drop h b
  obtain ⟨k', h0', e', h1', h2'⟩ := behind_drop h b'
  have hkk : k' ≤ k := by
    rcases Nat.lt_or_ge k k' with hlt | hge
    · have hl : k < l.length := by omega
      have g1 := h1' k l[k] hlt (List.getElem?_eq_getElem hl)
      have g2 := h2 k l[k] (Nat.le_refl _) (List.getElem?_eq_getElem hl)
      omega
    · exact hge
  rw [e, e']
  refine ⟨by simp; omega, ?_⟩
  rw [List.drop_drop]
  congr 1
  simp; omega
/-- The element that comes next behind a group. -/
theorem behind_next {l : List Rw} {i : Nat} {r : Rw} {b : Int} (hr : l[i]? = some r) (hb : b < r.1) : (behindL l b)[(behindL (l.take i) b).length]? = some r := by
  have hl : i < l.length := (List.getElem?_eq_some_iff.1 hr).1
  have e : l = l.take i ++ (r :: l.drop (i + 1)) := by
    rw [← (List.getElem?_eq_some_iff.1 hr).2, List.getElem_cons_drop, List.take_append_drop]
  have e2 : behindL l b = behindL (l.take i) b ++ behindL (r :: l.drop (i + 1)) b := by
    conv => lhs; rw [e]
    unfold behindL; rw [List.filter_append]
  rw [e2, List.getElem?_append_right (Nat.le_refl _), Nat.sub_self]
  unfold behindL
  simp [hb]

set_option maxHeartbeats 1600000 in
set_option maxRecDepth 100000 in
theorem behind_walk (A : Option Addr) (n c : Nat) (l0 : List Rw) (behind lesser most : Int) (w : World) (hb0 : RR w (· < w.heap.size) A n l0) (hl : n ≤ c) (hm : c ≤ 9223372036854775807) (hmost : I64 most) :
    Calls Try.prog 7 #[.slice A n c, .int .i64 behind, .int .i64 lesser, .int .i64 most] w fun e w' => e = .returned (.bool true) ∧ Below w.heap.size w w' := by
  by_cases hbig : 500 < n
  · go_enter Try.func7, Try.ntmps7
    go_wp2_with fail
    refine (works_any w).mono ?_
    rintro e w1 ⟨rfl, hB⟩
    go_wp2
    go_ret
    exact ⟨rfl, hB⟩
  · have hbg : decide (500 < (n : Int)) = false := by simp; omega
    go_enter Try.func7, Try.ntmps7
    go_wp2_with fail
    refine (rising_any _ A n c l0 w hb0 (fun _ h => h) (by omega)).mono ?_
    rintro e w1 ⟨v, rfl, hown, k1⟩
    obtain ⟨hlen, hmem, hrise⟩ := rising_all l0
    rw [hb0.len] at hlen
    obtain ⟨l, hlEq⟩ : ∃ l, l = rising l0 := ⟨_, rfl⟩
    rw [← hlEq] at hown hlen hmem hrise
    clear hlEq
    obtain ⟨m, hm1⟩ : ∃ m, m = l.length := ⟨_, rfl⟩
    rw [← hm1] at hown hlen
    clear hm1
    obtain ⟨L, cl, rfl, hcl, hcl2, _⟩ := own_form hown
    have hL : RR w1 (· < w1.heap.size) L m l := ⟨(own_reads hown).more fun _ h => h.2, fun r hr => hb0.2 r (hmem r hr)⟩
    clear hown hmem hb0
    obtain ⟨D, hD⟩ : ∃ D, D = behindL l behind := ⟨_, rfl⟩
    have hDl : D.length ≤ 500 := by rw [hD]; have := behindL_le l behind; rw [hL.len] at this; omega
    have HD := Lib.hid hD
    clear hD
    go_wp2_with fail
    refine (query_t L m cl l behind most w1 hL (by omega) hcl hcl2 hrise hmost).mono ?_
    rintro e w2 ⟨Aa, N, ca, βa, hNa, hβa, rfl, hca, _, _, hRa, hB⟩
    rw [← HD.out] at hNa hβa hRa
    have HN := Lib.hid hNa
    have HBa := Lib.hid hβa
    have hND : N ≤ D.length := by rw [hNa]; exact Nat.min_le_right _ _
    have hNm : N ≤ most.toNat := by rw [hNa]; exact Nat.min_le_left _ _
    have k2 := next_below k1 hB
    have l2 : Below w1.heap.size w1 w2 := hB
    clear hNa hβa hB k1
    go_wp2_with fail
    go_loopw [11, 12] (fun x i wr => ∃ (k q : Nat), k ≤ m ∧ i = .int .i64 k ∧ x = .int .i64 ((min N (behindL (l.take k) behind).length : Nat) : Int) ∧ wr = w2.drewN q) (fun _ i _ => m - (intOf i).toNat)
    case atStart => exact ⟨0, 0, by omega, rfl, by simp [behindL], rfl⟩
    case round =>
      obtain ⟨k, q, hk, rfl, rfl, rfl⟩ := hrel
      obtain ⟨C, hC⟩ : ∃ C, C = (behindL (l.take k) behind).length := ⟨_, rfl⟩
      rw [← hC]
      by_cases hlt : k < m
      · obtain ⟨b1, o1, r, rfl, _, hx, _, hc0, hc1, hc2⟩ := (hL.below l2).cell hlt
        have hs := behindL_snoc (l.take k) r behind
        rw [← take_succ_get l k r hx] at hs
        by_cases hg : behind < r.1
        · rw [if_pos hg] at hs
          have hs' : (behindL (l.take (k + 1)) behind).length = C + 1 := by rw [hs, List.length_append, ← hC]; rfl
          have hnx := behind_next hx hg
          rw [← hC, ← HD.out] at hnx
          have hCD : C < D.length := (List.getElem?_eq_some_iff.1 hnx).1
          have HS := Lib.hid hs'
          clear hs hs' hC
          by_cases hCN : C < N
          · have hmin : min N C = C := by omega
            rw [hmin]
            obtain ⟨b2, o2, y, rfl, _, hy, _, hd0, hd1, hd2⟩ := hRa.cell hCN
            have hyr : y = r := by
              rw [List.getElem?_take, if_pos hCN, hnx] at hy
              exact (Option.some.inj hy).symm
            subst hyr
            have heq := equalRow y y
            have hdec : decide (y = y) = true := by simp
            rw [hdec] at heq
            have hres : min N (C + 1) = C + 1 := by omega
            have HR := Lib.hid hres
            clear hdec hx hy hnx hmin hres
            go_wp2
            go_quiet (fail)
            go_wp2
            go_roundw
            case rel => exact ⟨k + 1, _, by omega, by go_num, by rw [HS.out, HR.out]; go_num, rfl⟩
            case measure => simp [intOf]; omega
          · have hmin : min N C = N := by omega
            rw [hmin]
            have hβ : βa = true := by rw [HBa.out]; simp; omega
            subst hβ
            have hres : min N (C + 1) = N := by omega
            have HR := Lib.hid hres
            clear hx hnx hmin hres hc1 hc2
            go_wp2
            go_roundw
            case rel => exact ⟨k + 1, _, by omega, by go_num, by rw [HS.out, HR.out], rfl⟩
            case measure => simp [intOf]; omega
        · rw [if_neg hg, List.append_nil] at hs
          have hs' : (behindL (l.take (k + 1)) behind).length = C := by rw [hs, ← hC]
          have HS := Lib.hid hs'
          obtain ⟨M, hM⟩ : ∃ M, M = min N C := ⟨_, rfl⟩
          rw [← hM]
          have HM := Lib.hid hM
          clear hs hs' hC hx hc1 hc2 hM
          go_wp2
          go_roundw
          case rel => exact ⟨k + 1, _, by omega, by go_num, by rw [HS.out, ← HM.out], rfl⟩
          case measure => simp [intOf]; omega
      · obtain rfl : k = m := by omega
        have hCD : C = D.length := by rw [hC, HD.out, List.take_of_length_le (Nat.le_of_eq hL.len)]
        have hmin : min N C = N := by omega
        rw [hmin]
        clear hC hCD hmin hlt
        have l3 := below_drewN l2 q
        have k3 := below_drewN k2 q
        have hR3 := hRa.below (below_drewN (Below.refl _ w2) q)
        have hL3 : RR (w2.drewN q) (· < (w2.drewN q).heap.size) L k l := (hL.below l3).more fun _ h => Nat.lt_of_lt_of_le h l3.size
        generalize w2.drewN q = w3 at *
        clear l2 k2
        go_wp2_with fail
        refine (query_t L k cl l behind 1000 w3 hL3 (by omega) hcl hcl2 hrise ⟨by decide, by decide⟩).mono ?_
        rintro e w4 ⟨A1, N1, c1, β1, hN1, hβ1, rfl, hc1, hc1', _, hR1, hB⟩
        rw [← HD.out] at hN1 hβ1 hR1
        have e1 : N1 = D.length := by rw [hN1, firstN]; exact Nat.min_eq_right (by have : (1000 : Int).toNat = 1000 := rfl; omega)
        obtain rfl : β1 = false := by rw [hβ1]; simp; omega
        subst e1
        rw [List.take_length] at hR1
        have k4 := next_below k3 hB
        have l4 := next_below l3 hB
        have x4 : Below w3.heap.size w3 w4 := hB
        have hL4 : RR w4 (· < w4.heap.size) L k l := (hL.below l4).more fun _ h => Nat.lt_of_lt_of_le h l4.size
        clear hN1 hβ1 hB k3 l3
        have hsfx : ∀ mn, mn ≤ behind → ∃ E, E = behindL l mn ∧ E.length ≤ 500 ∧ D.length ≤ E.length ∧ E.drop (E.length - D.length) = D := fun mn h => by
          have h2 := behind_suffix hrise h
          rw [← HD.out] at h2
          have := behindL_le l mn
          rw [hL.len] at this
          exact ⟨_, rfl, by omega, h2⟩
        by_cases hle : lesser < behind
        · go_wp2_with fail
          refine (query_t L k cl l lesser 1000 w4 hL4 (by omega) hcl hcl2 hrise ⟨by decide, by decide⟩).mono ?_
          rintro e w5 ⟨A2, N2, c2, β2, hN2, hβ2, rfl, hc2, hc2', _, hR2, hB⟩
          obtain ⟨E, hE, hEl, hs1, hs2⟩ := hsfx lesser (by omega)
          rw [← hE] at hN2 hβ2 hR2
          have e2 : N2 = E.length := by rw [hN2, firstN]; exact Nat.min_eq_right (by have : (1000 : Int).toNat = 1000 := rfl; omega)
          obtain rfl : β2 = false := by rw [hβ2]; simp; omega
          subst e2
          rw [List.take_length] at hR2
          have k5 := next_below k4 hB
          have R1 := hR1.below hB
          clear hN2 hβ2 hB k4 l4 x4 hE
          obtain ⟨J, hJ⟩ : ∃ J, J = E.length - D.length := ⟨_, rfl⟩
          rw [← hJ] at hs2
          have hcut := hR2.cut (k := J) (cap := c2) (by omega) hc2
          rw [hs2] at hcut
          have hj1 : IntKind.i64.wrap ((E.length : Int) - (D.length : Int)) = (J : Int) := (IntWalk.i64_in _ (by omega)).trans (by omega)
          have hj2 : E.length - J = D.length := by omega
          have hj3 : J ≤ E.length := by omega
          rw [hj2] at hcut
          have hge : decide ((D.length : Int) ≤ (E.length : Int)) = true := by simp; omega
          clear hs2 hJ
          generalize E.length = F at *
          generalize hDL : D.length = G at *
          by_cases hz : most < 0
          · have hN0 : decide ((N : Int) ≤ 0) = true := by simp; omega
            go_wp2_with fail
            all_goals
              first | rw [if_pos (by assumption)] at hcut | rw [if_neg (by assumption)] at hcut
              refine (same_b _ _ _ G _ _ A1 G c1 w5 hcut R1 (by omega)).mono ?_
              rintro e w6 ⟨rfl, hB⟩
              have k6 := next_below k5 hB
              clear hB k5
              go_wp2_with fail
              refine (works_any w6).mono ?_
              rintro e w7 ⟨rfl, hB⟩
              have k7 := next_below k6 hB
              go_wp2
              go_ret
              exact ⟨rfl, k7⟩
          · have hN0 : decide ((N : Int) ≤ most) = true := by simp; omega
            go_wp2_with fail
            all_goals
              first | rw [if_pos (by assumption)] at hcut | rw [if_neg (by assumption)] at hcut
              refine (same_b _ _ _ G _ _ A1 G c1 w5 hcut R1 (by omega)).mono ?_
              rintro e w6 ⟨rfl, hB⟩
              have k6 := next_below k5 hB
              clear hB k5
              go_wp2_with fail
              refine (works_any w6).mono ?_
              rintro e w7 ⟨rfl, hB⟩
              have k7 := next_below k6 hB
              go_wp2
              go_ret
              exact ⟨rfl, k7⟩
        · go_wp2_with fail
          refine (query_t L k cl l behind 1000 w4 hL4 (by omega) hcl hcl2 hrise ⟨by decide, by decide⟩).mono ?_
          rintro e w5 ⟨A2, N2, c2, β2, hN2, hβ2, rfl, hc2, hc2', _, hR2, hB⟩
          obtain ⟨E, hE, hEl, hs1, hs2⟩ := hsfx behind (by omega)
          rw [← hE] at hN2 hβ2 hR2
          have e2 : N2 = E.length := by rw [hN2, firstN]; exact Nat.min_eq_right (by have : (1000 : Int).toNat = 1000 := rfl; omega)
          obtain rfl : β2 = false := by rw [hβ2]; simp; omega
          subst e2
          rw [List.take_length] at hR2
          have k5 := next_below k4 hB
          have R1 := hR1.below hB
          clear hN2 hβ2 hB k4 l4 x4 hE
          obtain ⟨J, hJ⟩ : ∃ J, J = E.length - D.length := ⟨_, rfl⟩
          rw [← hJ] at hs2
          have hcut := hR2.cut (k := J) (cap := c2) (by omega) hc2
          rw [hs2] at hcut
          have hj1 : IntKind.i64.wrap ((E.length : Int) - (D.length : Int)) = (J : Int) := (IntWalk.i64_in _ (by omega)).trans (by omega)
          have hj2 : E.length - J = D.length := by omega
          have hj3 : J ≤ E.length := by omega
          rw [hj2] at hcut
          have hge : decide ((D.length : Int) ≤ (E.length : Int)) = true := by simp; omega
          clear hs2 hJ
          generalize E.length = F at *
          generalize hDL : D.length = G at *
          by_cases hz : most < 0
          · have hN0 : decide ((N : Int) ≤ 0) = true := by simp; omega
            go_wp2_with fail
            all_goals
              first | rw [if_pos (by assumption)] at hcut | rw [if_neg (by assumption)] at hcut
              refine (same_b _ _ _ G _ _ A1 G c1 w5 hcut R1 (by omega)).mono ?_
              rintro e w6 ⟨rfl, hB⟩
              have k6 := next_below k5 hB
              clear hB k5
              go_wp2_with fail
              refine (works_any w6).mono ?_
              rintro e w7 ⟨rfl, hB⟩
              have k7 := next_below k6 hB
              go_wp2
              go_ret
              exact ⟨rfl, k7⟩
          · have hN0 : decide ((N : Int) ≤ most) = true := by simp; omega
            go_wp2_with fail
            all_goals
              first | rw [if_pos (by assumption)] at hcut | rw [if_neg (by assumption)] at hcut
              refine (same_b _ _ _ G _ _ A1 G c1 w5 hcut R1 (by omega)).mono ?_
              rintro e w6 ⟨rfl, hB⟩
              have k6 := next_below k5 hB
              clear hB k5
              go_wp2_with fail
              refine (works_any w6).mono ?_
              rintro e w7 ⟨rfl, hB⟩
              have k7 := next_below k6 hB
              go_wp2
              go_ret
              exact ⟨rfl, k7⟩
end Go.Proofs.Ytgmbfjlobnmhdaa
