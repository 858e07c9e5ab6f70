/- The walk of the statement PagePages: page behind page, all the rows. -/
import Derived.Test.YtgmbfjlobnmhdaaBehind
import Derived.Test.YtgmbfjlobnmhdaaPick
import Derived.Deep.CutRange
namespace Go.Proofs.Ytgmbfjlobnmhdaa
open Go.RowKit

theorem behind_last {l : List Rw} (h : Rise l) {j : Nat} {r : Rw} (hr : l[j]? = some r) : behindL l r.1 = l.drop (j + 1) := by
  refine (drop_behind (fun k x hk hx => ?_) fun k x hk hx => h j k r x (by omega) hr hx).symm
  rcases Nat.lt_or_ge k j with h1 | h1
  · have := h k j x r h1 hx hr; omega
  · obtain rfl : k = j := by omega
    rw [hr] at hx; cases hx; exact Int.le_refl _
theorem take_take_drop {α : Type} (l : List α) (a b : Nat) : l.take a ++ (l.drop a).take b = l.take (a + b) := by rw [List.take_add]

set_option maxHeartbeats 1600000 in
set_option maxRecDepth 100000 in
theorem pages_walk (A : Option Addr) (n c : Nat) (l0 : List Rw) (S : Option Addr) (s cs : Nat) (zs : List Int) (w : World) (hb0 : RR w (· < w.heap.size) A n l0) (hS : RI w (· < w.heap.size) S s zs) :
    Calls Try.prog 4 #[.slice A n c, .slice S s cs] w fun e w' => e = .returned (.bool true) ∧ Below w.heap.size w w' := by
  by_cases hbig : 500 < n
  · have hbg : decide (500 < (n : Int)) = true := by simp; omega
    go_enter Try.func4, Try.ntmps4
    go_wp2_with fail
    refine (works_any w).mono ?_
    rintro e w1 ⟨rfl, hB⟩
    go_wp2
    go_ret
    exact ⟨rfl, hB⟩
  by_cases hbig2 : 100 < s
  · have hbg : decide (500 < (n : Int)) = false := by simp; omega
    have hbg2 : decide (100 < (s : Int)) = true := by simp; omega
    go_enter Try.func4, Try.ntmps4
    go_wp2_with fail
    refine (works_any w).mono ?_
    rintro e w1 ⟨rfl, hB⟩
    go_wp2
    go_ret
    exact ⟨rfl, hB⟩
  · have hbg : decide (500 < (n : Int)) = false := by simp; omega
    have hbg2 : decide (100 < (s : Int)) = false := by simp; omega
    go_enter Try.func4, Try.ntmps4
    go_wp2_with fail
    refine (rising_any _ A n c l0 w hb0 (fun _ h => h) (by omega)).mono ?_
    rintro e w1 ⟨v, rfl, hown, k1⟩
    obtain ⟨hlen, hmem, hrise⟩ := rising_all l0
    rw [hb0.len] at hlen
    obtain ⟨l, hlEq⟩ : ∃ l, l = rising l0 := ⟨_, rfl⟩
    rw [← hlEq] at hown hlen hmem hrise
    clear hlEq
    obtain ⟨m, hm1⟩ : ∃ m, m = l.length := ⟨_, rfl⟩
    rw [← hm1] at hown hlen
    clear hm1
    obtain ⟨L, cl, rfl, hcl, hcl2, _⟩ := own_form hown
    have hL : RR w1 (· < w1.heap.size) L m l := ⟨(own_reads hown).more fun _ h => h.2, fun r hr => hb0.2 r (hmem r hr)⟩
    clear hown hmem hb0
    have hS1 := hS.below k1
    obtain ⟨β, hsd⟩ : ∃ β, decide (0 < s) = β := ⟨_, rfl⟩
    have hsd2 : decide (0 < (s : Int)) = β := by rw [← hsd]; simp
    go_upto_if 24 with fail
    go_cut [5] from 25 to 29 (fun s5 wx => ∃ z : Int, s5 = .int .i64 z ∧ 1 ≤ z ∧ z ≤ 50 ∧ w1 = wx)
    case first =>
      clear hsd2
      rcases β with _ | _
      rotate_left
      · have hs : 0 < s := of_decide_eq_true hsd
        clear hsd
        obtain ⟨b1, o1, x, rfl, _, _, hx1, hx2, hc0⟩ := hS1.cell hs
        rw [Nat.add_zero] at hc0
        go_wp2_with fail
        refine (pick_pos x 50 w1 (by decide) (by decide) hx1 hx2).mono ?_
        rintro e _ ⟨rfl, rfl⟩
        obtain ⟨y, hy⟩ : ∃ y, y = x % 50 := ⟨_, rfl⟩
        have hy1 : 0 ≤ y := by rw [hy]; exact Int.emod_nonneg _ (by decide)
        have hy2 : y < 50 := by rw [hy]; exact Int.emod_lt_of_pos _ (by decide)
        rw [← hy]
        clear hy
        go_wp2
        go_meet
        case rel => exact ⟨1 + y, by go_num, by omega, by omega, rfl⟩
      · clear hsd
        go_wp2
        go_meet
        case rel => exact ⟨3, rfl, by decide, by decide, rfl⟩
    case rest =>
      obtain ⟨z, rfl, hz1, hz2, rfl⟩ := hcut
      go_wp2_with fail
      refine (first_t L m cl l z w1 hL (by omega) hcl hcl2 ⟨by omega, by omega⟩).mono ?_
      rintro e w2 ⟨Aa, N, ca, βa, hNa, hβa, rfl, hca, _, hoa, _, hB⟩
      rw [hL.len] at hNa hβa
      have hN1 : N ≤ m := by rw [hNa]; exact Nat.min_le_right _ _
      have hN2 : N < m → 1 ≤ N := by rw [hNa, firstN]; omega
      have HNa := Lib.hid hNa
      have HBa := Lib.hid hβa
      clear hNa hβa
      go_wp2_with fail
      go_loopw [5, 6, 7, 8] (fun s5 s6 s7 s8 wr => ∃ (M i : Nat) (z : Int), s5 = .int .i64 z ∧ 1 ≤ z ∧ z ≤ 50 ∧ s7 = .bool (decide (M < m)) ∧ s8 = .int .i64 i ∧ 1 ≤ i ∧ i ≤ 501 ∧ (M < m → i ≤ M) ∧ M ≤ m ∧ wr.ownsRow w1.heap.size 34 3 s6 M (rcs (l.take M)) ∧ Below w1.heap.size w1 wr) (fun _ _ _ s8 _ => 600 - (intOf s8).toNat)
      case atStart => exact ⟨N, 1, z, rfl, hz1, hz2, by rw [HBa.out], rfl, by omega, by omega, hN2, hN1, hoa, hB⟩
      case round =>
        obtain ⟨M, i, z, rfl, hz1, hz2, rfl, rfl, hi1, hi501, hiM, hMm, hgot, hBr⟩ := hrel
        clear hN1 hN2 HNa HBa hoa hB
        obtain ⟨G, cg, rfl, hcg, hcg2, _⟩ := own_form hgot
        by_cases hlt : M < m
        · have hdm : decide (M < m) = true := by simp; omega
          have hiM' := hiM hlt
          obtain ⟨j, rfl⟩ : ∃ j, M = j + 1 := ⟨M - 1, by omega⟩
          have hGr : RR wr (· < wr.heap.size) G (j + 1) (l.take (j + 1)) := ⟨(own_reads hgot).more fun _ h => h.2, fun r hr => hL.2 r (List.mem_of_mem_take hr)⟩
          obtain ⟨b1, o1, r, rfl, _, hx, hrok, hc0, _, _⟩ := hGr.cell (k := j) (by omega)
          have hxl : l[j]? = some r := by rw [List.getElem?_take, if_pos (by omega)] at hx; exact hx
          have hbh := behind_last hrise hxl
          have hw1 : IntKind.i64.wrap ((j : Int) + 1 - 1) = (j : Int) := (IntWalk.i64_in _ (by omega)).trans (by omega)
          have hj1 : (0 : Int) ≤ (j : Int) := by omega
          have hj2 : (j : Int) < (j : Int) + 1 := by omega
          have hj3 : ((j : Int) + 1 == 0) = false := by simp; omega
          have hLr : RR wr (· < wr.heap.size) L m l := (hL.below hBr).more fun _ h => Nat.lt_of_lt_of_le h hBr.size
          have hSr := hS.below (next_below k1 hBr)
          have HBH := Lib.hid hbh
          clear hx hxl hbh hiM
          rcases β with _ | _
          · go_wp2_with fail
            refine (query_t L m cl l r.1 z wr hLr (by omega) hcl hcl2 hrise ⟨by omega, by omega⟩).mono ?_
            rintro e w3 ⟨A2, N2, c2, β2, hN2, hβ2, rfl, hc2, hc2', _, hR2, hB⟩
            rw [HBH.out] at hN2 hβ2 hR2
            have hdl : (l.drop (j + 1)).length = m - (j + 1) := by rw [List.length_drop, hL.len]
            rw [hdl] at hN2 hβ2
            have hN3 : N2 ≤ m - (j + 1) := by rw [hN2, firstN]; exact Nat.min_le_right _ _
            have hN4 : 1 ≤ N2 := by rw [hN2, firstN]; omega
            have hN5 : (N2 : Int) ≤ z := by rw [hN2, firstN]; omega
            have hN6 : N2 < m - (j + 1) → (N2 : Int) = z := by rw [hN2, firstN]; omega
            have ht1 : decide (z < (N2 : Int)) = false := by simp; omega
            have ht2 : ((N2 : Int) == 0) = false := by simp; omega
            have hown3 := below_own hgot hB
            have hB3 := next_below hBr hB
            have hb2 : β2 = decide (j + 1 + N2 < m) := by rw [hβ2]; congr 1; simp; omega
            have hb3 : β2 = true → (N2 : Int) = z := fun h => hN6 (by rw [hβ2] at h; exact of_decide_eq_true h)
            have hnews : rcs (l.take (j + 1)) ++ rcs ((l.drop (j + 1)).take N2) = rcs (l.take (j + 1 + N2)) := by rw [← rcs_append, take_take_drop]
            have HB2 := Lib.hid hb2
            have HNW := Lib.hid hnews
            clear hN2 hβ2 hdl hN6 hb2 hnews hgot hGr hc0 hLr hSr hB hBr hw1 hj3
            have hsz : w1.heap.size ≤ w3.heap.size := hB3.size
            rcases β2 with _ | _
            · clear hb3
              go_wp2_with (at_builtin; (refine wpList_appN _ rfl _ _ 22 rfl w1.heap.size 34 (.agg #[.int .i64 0, .int .i64 0, .int .i64 0]) 3 24 Try.underlying22 infoRow rfl (by decide) _ (j + 1) _ hown3 rfl _ _ N2 c2 _ hR2.1 rfl (rcs_one _) (by omega) (by omega) hsz ?_); intro v4 w4 hown4 _ hb4 _)
              rw [HNW.out] at hown4
              go_wp2
              go_roundw
              case rel => exact ⟨j + 1 + N2, i + 1, z, rfl, by omega, by omega, by rw [← HB2.out], by go_num, by omega, by omega, by omega, by omega, hown4, hB3.trans hb4⟩
              case measure => simp [intOf]; omega
            · have hzz := hb3 rfl
              clear hb3
              have ht3 : ((N2 : Int) != z) = false := by simp [hzz]
              have HZ := Lib.hid hzz
              clear hzz
              go_wp2_with (at_builtin; (refine wpList_appN _ rfl _ _ 22 rfl w1.heap.size 34 (.agg #[.int .i64 0, .int .i64 0, .int .i64 0]) 3 24 Try.underlying22 infoRow rfl (by decide) _ (j + 1) _ hown3 rfl _ _ N2 c2 _ hR2.1 rfl (rcs_one _) (by omega) (by omega) hsz ?_); intro v4 w4 hown4 _ hb4 _)
              rw [HNW.out] at hown4
              go_wp2
              go_roundw
              case rel => exact ⟨j + 1 + N2, i + 1, z, rfl, by omega, by omega, by rw [← HB2.out], by go_num, by omega, by omega, by omega, by omega, hown4, hB3.trans hb4⟩
              case measure => simp [intOf]; omega
          · have hs : 0 < s := of_decide_eq_true hsd
            clear hsd
            obtain ⟨b2, o2, x, rfl, _, _, hx1, hx2, hc5⟩ := hSr.cell (k := i % s) (Nat.mod_lt _ hs)
            have hd2 : i % s < s := Nat.mod_lt _ hs
            have hrem : (i : Int).tmod (s : Int) = ((i % s : Nat) : Int) := by rw [Int.tmod_eq_emod_of_nonneg (by omega)]; rfl
            have hrem2 : IntKind.i64.wrap ((i : Int).tmod (s : Int)) = ((i % s : Nat) : Int) := by rw [hrem]; exact IntWalk.i64_in _ (by omega)
            generalize i % s = d at *
            go_wp2_with fail
            refine (pick_pos x 50 wr (by decide) (by decide) hx1 hx2).mono ?_
            rintro e _ ⟨rfl, rfl⟩
            obtain ⟨y, hy⟩ : ∃ y, y = x % 50 := ⟨_, rfl⟩
            have hy1 : 0 ≤ y := by rw [hy]; exact Int.emod_nonneg _ (by decide)
            have hy2 : y < 50 := by rw [hy]; exact Int.emod_lt_of_pos _ (by decide)
            rw [← hy]
            clear hy hc5 hrem hrem2
            go_wp2_with fail
            refine (query_t L m cl l r.1 (1 + y) wr hLr (by omega) hcl hcl2 hrise ⟨by omega, by omega⟩).mono ?_
            rintro e w3 ⟨A2, N2, c2, β2, hN2, hβ2, rfl, hc2, hc2', _, hR2, hB⟩
            rw [HBH.out] at hN2 hβ2 hR2
            have hdl : (l.drop (j + 1)).length = m - (j + 1) := by rw [List.length_drop, hL.len]
            rw [hdl] at hN2 hβ2
            have hN3 : N2 ≤ m - (j + 1) := by rw [hN2, firstN]; exact Nat.min_le_right _ _
            have hN4 : 1 ≤ N2 := by rw [hN2, firstN]; omega
            have hN5 : (N2 : Int) ≤ (1 + y) := by rw [hN2, firstN]; omega
            have hN6 : N2 < m - (j + 1) → (N2 : Int) = (1 + y) := by rw [hN2, firstN]; omega
            have ht1 : decide ((1 + y) < (N2 : Int)) = false := by simp; omega
            have ht2 : ((N2 : Int) == 0) = false := by simp; omega
            have hown3 := below_own hgot hB
            have hB3 := next_below hBr hB
            have hb2 : β2 = decide (j + 1 + N2 < m) := by rw [hβ2]; congr 1; simp; omega
            have hb3 : β2 = true → (N2 : Int) = (1 + y) := fun h => hN6 (by rw [hβ2] at h; exact of_decide_eq_true h)
            have hnews : rcs (l.take (j + 1)) ++ rcs ((l.drop (j + 1)).take N2) = rcs (l.take (j + 1 + N2)) := by rw [← rcs_append, take_take_drop]
            have HB2 := Lib.hid hb2
            have HNW := Lib.hid hnews
            clear hN2 hβ2 hdl hN6 hb2 hnews hgot hGr hc0 hLr hSr hB hBr hw1 hj3
            have hsz : w1.heap.size ≤ w3.heap.size := hB3.size
            rcases β2 with _ | _
            · clear hb3
              go_wp2_with (at_builtin; (refine wpList_appN _ rfl _ _ 22 rfl w1.heap.size 34 (.agg #[.int .i64 0, .int .i64 0, .int .i64 0]) 3 24 Try.underlying22 infoRow rfl (by decide) _ (j + 1) _ hown3 rfl _ _ N2 c2 _ hR2.1 rfl (rcs_one _) (by omega) (by omega) hsz ?_); intro v4 w4 hown4 _ hb4 _)
              rw [HNW.out] at hown4
              go_wp2
              go_roundw
              case rel => exact ⟨j + 1 + N2, i + 1, (1 + y), rfl, by omega, by omega, by rw [← HB2.out], by go_num, by omega, by omega, by omega, by omega, hown4, hB3.trans hb4⟩
              case measure => simp [intOf]; omega
            · have hzz := hb3 rfl
              clear hb3
              have ht3 : ((N2 : Int) != (1 + y)) = false := by simp [hzz]
              have HZ := Lib.hid hzz
              clear hzz
              go_wp2_with (at_builtin; (refine wpList_appN _ rfl _ _ 22 rfl w1.heap.size 34 (.agg #[.int .i64 0, .int .i64 0, .int .i64 0]) 3 24 Try.underlying22 infoRow rfl (by decide) _ (j + 1) _ hown3 rfl _ _ N2 c2 _ hR2.1 rfl (rcs_one _) (by omega) (by omega) hsz ?_); intro v4 w4 hown4 _ hb4 _)
              rw [HNW.out] at hown4
              go_wp2
              go_roundw
              case rel => exact ⟨j + 1 + N2, i + 1, (1 + y), rfl, by omega, by omega, by rw [← HB2.out], by go_num, by omega, by omega, by omega, by omega, hown4, hB3.trans hb4⟩
              case measure => simp [intOf]; omega
        · have hdm : decide (M < m) = false := by simp; omega
          obtain rfl : M = m := by omega
          have e : l.take M = l := List.take_of_length_le (Nat.le_of_eq hL.len)
          rw [e] at hgot
          clear e
          have hGr : RR wr (· < wr.heap.size) G M l := ⟨(own_reads hgot).more fun _ h => h.2, hL.2⟩
          have kr := next_below k1 hBr
          go_wp2_with fail
          refine (same_b _ _ G M cg _ L M cl wr hGr (hL.below hBr) (by omega)).mono ?_
          rintro e w6 ⟨rfl, hB⟩
          have k6 := next_below kr hB
          clear hB kr
          go_wp2_with fail
          refine (works_any w6).mono ?_
          rintro e w7 ⟨rfl, hB⟩
          have k7 := next_below k6 hB
          go_wp2
          go_ret
          exact ⟨rfl, k7⟩
end Go.Proofs.Ytgmbfjlobnmhdaa
