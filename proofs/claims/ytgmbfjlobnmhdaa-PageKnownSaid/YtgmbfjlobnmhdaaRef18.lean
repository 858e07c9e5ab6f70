/- The contracts of the document's answer for layer 18; Rising. -/
import Derived.Test.YtgmbfjlobnmhdaaPage
import Derived.Test.YtgmbfjlobnmhdaaPick
namespace Go.Proofs.Ytgmbfjlobnmhdaa
open Go.RowKit

set_option maxHeartbeats 800000 in
theorem refFirst_any (P : Nat → Prop) (A : Option Addr) (n c : Nat) (l : List Rw) (most : Int) (w : World) (hb : RR w P A n l) (hP : ∀ i, P i → i < w.heap.size) (hn : n ≤ 1099511627000) (hm : I64 most) :
    Calls Try.prog 14 #[.slice A n c, .int .i64 most] w fun e w' => ∃ v, e = .returned (.tuple #[v, .bool (decide (firstN n most < n))]) ∧ w'.ownsRow w.heap.size 34 3 v (firstN n most) (rcs (l.take (firstN n most))) ∧ Below w.heap.size w w' := by
  obtain ⟨N, hN⟩ : ∃ N, N = firstN n most := ⟨_, rfl⟩
  rw [← hN]
  unfold firstN at hN
  unfold I64 at hm
  have HN := Lib.hid hN
  clear hN
  go_enter Try.func14, Try.ntmps14
  go_wp2
  go_loopw [6, 7] (fun v i wr => ∃ k : Nat, k ≤ n ∧ k ≤ N ∧ i = .int .i64 k ∧ wr.ownsRow w.heap.size 34 3 v k (rcs (l.take k)) ∧ Below w.heap.size w wr) (fun _ i _ => n - (intOf i).toNat)
  case atStart => exact ⟨0, by omega, by omega, rfl, World.ownsRow_nil _ _ _ _, Below.refl _ _⟩
  case round =>
    obtain ⟨k, hk, hkN, rfl, hown, hB⟩ := hrel
    obtain ⟨A1, c1, rfl, _, _, _⟩ := own_form hown
    by_cases hlt : k < n
    · by_cases hmk : most ≤ (k : Int)
      · have hNk : N = k := by have := HN.out; omega
        subst hNk
        have hd : true = decide (N < n) := by simp [hlt]
        have HD := Lib.hid hd
        clear hd
        go_wp2
        go_ret2
        exact ⟨_, congrArg (fun b => Ending.returned (.tuple #[.slice A1 N c1, .bool b])) HD.out, hown, hB⟩
      · have hkN1 : k + 1 ≤ N := by have := HN.out; omega
        obtain ⟨b, off, r, rfl, hPb, hx, hr, hc0, hc1, hc2⟩ := hb.cell hlt
        have hd0 : wr.cell? ⟨b, off + k * 3, none⟩ = some (.int .i64 r.1) := (hB.cell (p := ⟨b, _, none⟩) (hP b hPb)).trans hc0
        have hd1 : wr.cell? ⟨b, off + k * 3 + 1, none⟩ = some (.int .i64 r.2.1) := (hB.cell (p := ⟨b, _, none⟩) (hP b hPb)).trans hc1
        have hd2 : wr.cell? ⟨b, off + k * 3 + 2, none⟩ = some (.int .i64 r.2.2) := (hB.cell (p := ⟨b, _, none⟩) (hP b hPb)).trans hc2
        clear hc0 hc1 hc2
        have HX := Lib.hid hx
        clear hx
        go_wp2_with (at_builtin; (refine wpList_app1 wr #[.int .i64 r.1, .int .i64 r.2.1, .int .i64 r.2.2] rfl _ _ 22 rfl w.heap.size 34 (.agg #[.int .i64 0, .int .i64 0, .int .i64 0]) 3 24 Try.underlying22 infoRow rfl (by decide) _ k _ hown rfl rfl rfl (rcs_one [r]) (by omega) (by omega) hB.size ?_); intro g cap w1 hown1 _ hb1 _ _)
        have R : w1.ownsRow w.heap.size 34 3 (.slice (some ⟨g, 0, none⟩) (k + 1) cap) (k + 1) (rcs (l.take (k + 1))) := by
          rw [take_succ_get l k r HX.out, rcs_append]; exact hown1
        clear hown1
        have hB1 := hB.trans hb1
        clear hB hb1 hown hd0 hd1 hd2
        go_wp2
        go_roundw
        case rel => exact ⟨k + 1, by omega, by omega, by go_num, R, hB1⟩
        case measure => simp [intOf]; omega
    · have hNk : N = k := by have := HN.out; omega
      subst hNk
      have hd : false = decide (N < n) := by simp; omega
      have HD := Lib.hid hd
      clear hd
      go_wp2
      go_ret2
      exact ⟨_, congrArg (fun b => Ending.returned (.tuple #[.slice A1 N c1, .bool b])) HD.out, hown, hB⟩

theorem behindL_snoc (l : List Rw) (r : Rw) (b : Int) : behindL (l ++ [r]) b = behindL l b ++ (if b < r.1 then [r] else []) := by
  unfold behindL
  rw [List.filter_append]
  by_cases h : b < r.1 <;> simp [h]
theorem behindL_le (l : List Rw) (b : Int) : (behindL l b).length ≤ l.length := List.length_filter_le _ _

set_option maxHeartbeats 800000 in
theorem refQuery_any (A : Option Addr) (n c : Nat) (l : List Rw) (behind most : Int) (w : World) (hb : RR w (· < w.heap.size) A n l) (hn : n ≤ 1099511627000) (hm : I64 most) :
    Calls Try.prog 12 #[.slice A n c, .int .i64 behind, .int .i64 most] w fun e w' => ∃ v N, N = firstN (behindL l behind).length most ∧ e = .returned (.tuple #[v, .bool (decide (N < (behindL l behind).length))]) ∧
      w'.ownsRow w.heap.size 34 3 v N (rcs ((behindL l behind).take N)) ∧ Below w.heap.size w w' := by
  go_enter Try.func12, Try.ntmps12
  go_wp2
  go_loopw [8, 9] (fun v i wr => ∃ k : Nat, k ≤ n ∧ i = .int .i64 k ∧ wr.ownsRow w.heap.size 34 3 v (behindL (l.take k) behind).length (rcs (behindL (l.take k) behind)) ∧ Below w.heap.size w wr) (fun _ i _ => n - (intOf i).toNat)
  case atStart => exact ⟨0, by omega, rfl, World.ownsRow_nil _ _ _ _, Below.refl _ _⟩
  case round =>
    obtain ⟨k, hk, rfl, hown, hB⟩ := hrel
    by_cases hlt : k < n
    · obtain ⟨b, off, r, rfl, hPb, hx, hr, hc0, hc1, hc2⟩ := hb.cell hlt
      have hd0 : wr.cell? ⟨b, off + k * 3, none⟩ = some (.int .i64 r.1) := (hB.cell (p := ⟨b, _, none⟩) hPb).trans hc0
      have hd1 : wr.cell? ⟨b, off + k * 3 + 1, none⟩ = some (.int .i64 r.2.1) := (hB.cell (p := ⟨b, _, none⟩) hPb).trans hc1
      have hd2 : wr.cell? ⟨b, off + k * 3 + 2, none⟩ = some (.int .i64 r.2.2) := (hB.cell (p := ⟨b, _, none⟩) hPb).trans hc2
      have hs := behindL_snoc (l.take k) r behind
      rw [← take_succ_get l k r hx] at hs
      have hle := behindL_le (l.take k) behind
      have hle2 : (l.take k).length ≤ k := List.length_take_le _ _
      obtain ⟨m, hmm⟩ : ∃ m, m = (behindL (l.take k) behind).length := ⟨_, rfl⟩
      rw [← hmm] at hown hle
      have HM := Lib.hid hmm
      clear hc0 hc1 hc2 hx hmm
      by_cases hg : behind < r.1
      · rw [if_pos hg] at hs
        have HS := Lib.hid hs
        clear hs
        go_wp2_with (at_builtin; (refine wpList_app1 wr #[.int .i64 r.1, .int .i64 r.2.1, .int .i64 r.2.2] rfl _ _ 22 rfl w.heap.size 34 (.agg #[.int .i64 0, .int .i64 0, .int .i64 0]) 3 24 Try.underlying22 infoRow rfl (by decide) _ m _ hown rfl rfl rfl (rcs_one [r]) (by omega) (by omega) hB.size ?_); intro g cap w1 hown1 _ hb1 _ _)
        have R : w1.ownsRow w.heap.size 34 3 (.slice (some ⟨g, 0, none⟩) (m + 1) cap) (behindL (l.take (k + 1)) behind).length (rcs (behindL (l.take (k + 1)) behind)) := by
          rw [HS.out, rcs_append, List.length_append, ← HM.out]; exact hown1
        clear hown1
        have hB1 := hB.trans hb1
        clear hB hb1 hown hd0 hd1 hd2
        go_wp2
        go_roundw
        case rel => exact ⟨k + 1, by omega, by go_num, R, hB1⟩
        case measure => simp [intOf]; omega
      · rw [if_neg hg, List.append_nil] at hs
        have R : wr.ownsRow w.heap.size 34 3 u8 (behindL (l.take (k + 1)) behind).length (rcs (behindL (l.take (k + 1)) behind)) := by rw [hs, ← HM.out]; exact hown
        have HS := Lib.hid hs
        clear hs
        clear hown hd1 hd2
        go_wp2
        go_roundw
        case rel => exact ⟨k + 1, by omega, by go_num, R, hB⟩
        case measure => simp [intOf]; omega
    · obtain rfl : k = n := by omega
      have e : l.take k = l := List.take_of_length_le (Nat.le_of_eq hb.len)
      rw [e] at hown
      clear e
      obtain ⟨A1, c1, rfl, hcc, _, _⟩ := own_form hown
      have hr : RR wr (· < wr.heap.size) A1 _ (behindL l behind) := ⟨(own_reads hown).more fun _ h => h.2, fun r hr => hb.2 r (List.mem_filter.1 hr).1⟩
      have hle := behindL_le l behind
      rw [hb.len] at hle
      have HF := Lib.hid ((refFirst_any _ A1 _ c1 _ most wr hr (fun _ h => h) (by omega) hm).mono
        (R' := fun e w' => ∃ v β, e = .returned (.tuple #[v, .bool β]) ∧ β = decide (firstN (behindL l behind).length most < (behindL l behind).length) ∧
          w'.ownsRow w.heap.size 34 3 v (firstN (behindL l behind).length most) (rcs ((behindL l behind).take (firstN (behindL l behind).length most))) ∧ Below w.heap.size w w')
        fun e w' ⟨v, h1, h2, h3⟩ => ⟨v, _, h1, rfl, own_base h2 hB.size, next_below hB h3⟩)
      clear hown hr hle
      go_wp2_with fail
      refine HF.out.mono ?_
      rintro e w4 ⟨v, β, rfl, hβ, hown, hB4⟩
      have HBe := Lib.hid hβ
      clear hβ
      go_wp2
      go_ret2
      exact ⟨v, _, rfl, congrArg (fun b => Ending.returned (.tuple #[v, .bool b])) HBe.out, hown, hB4⟩
end Go.Proofs.Ytgmbfjlobnmhdaa
