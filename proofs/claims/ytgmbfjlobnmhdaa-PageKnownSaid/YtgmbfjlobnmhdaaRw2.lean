/- More contracts on rows: marks, LentRows, KeptRows, SpoilRows. -/
import Derived.Test.YtgmbfjlobnmhdaaRw
import Derived.Deep.QuietTactic
namespace Go.Proofs.Ytgmbfjlobnmhdaa
open Go.RowKit

def markR (i : Nat) : Rw := (77 + (i : Int), -9, 3)
def marksR (k : Nat) : List Rw := (List.range k).map markR
theorem marksR_succ (k : Nat) : marksR (k + 1) = marksR k ++ [markR k] := by simp [marksR, List.range_succ]
theorem marksR_get (n k : Nat) (h : k < n) : (marksR n)[k]? = some (markR k) := by simp [marksR, List.getElem?_range, h]

theorem markRows_any (i : Int) (w : World) (h0 : 0 ≤ i) (hk : i ≤ 1099511627776) : Calls Try.prog 21 #[.int .i64 i] w fun e w' => e = .returned (.agg #[.int .i64 (77 + i), .int .i64 (-9), .int .i64 3]) ∧ Below w.heap.size w w' := by
  go_enter Try.func21, Try.ntmps21
  go_wp2
  exact bodyPost_ret (v := .agg #[.int .i64 (77 + i), .int .i64 (-9), .int .i64 3]) (by simp [results, Try.results21, go_sem]) rfl ⟨rfl, (Below.refl _ _).alloc (Nat.le_refl _) _⟩

theorem below_own {w w' : World} {base : Nat} {e : TypeId} {size : Nat} {v : Value} {n : Nat} {xs : List Value} (h : w.ownsRow base e size v n xs) (hb : Below w.heap.size w w') : w'.ownsRow base e size v n xs := by
  refine ⟨h.1, ?_⟩
  rcases h.2 with h2 | ⟨g, cap, cur, hv, hg, hh, r⟩
  · exact .inl h2
  · exact .inr ⟨g, cap, cur, hv, hg, by rw [hb.block g (Array.getElem?_eq_some_iff.1 hh).1]; exact hh, r⟩
theorem next_below {w w1 w2 : World} (h : Below w.heap.size w w1) (k : Below w1.heap.size w1 w2) : Below w.heap.size w w2 := h.trans (k.mono h.size)

set_option maxHeartbeats 400000 in
theorem lentRows_any (P : Nat → Prop) (A : Option Addr) (n c : Nat) (l : List Rw) (w : World) (hb : RR w P A n l) (hP : ∀ i, P i → i < w.heap.size) (hn : n ≤ 1099511627000) :
    Calls Try.prog 10 #[.slice A n c] w fun e w' => ∃ v, e = .returned v ∧ w'.ownsRow w.heap.size 34 3 v (n + 5) (rcs (l ++ marksR 5)) ∧ Below w.heap.size w w' := by
  go_enter Try.func10, Try.ntmps10
  go_wp2_with fail
  refine (copyRows_any P A n c l w hb hP (by omega)).mono ?_
  rintro e w1 ⟨v1, rfl, hown1, hB1⟩
  go_wp2_with fail
  go_loopw [3, 4] (fun v i wr => ∃ k : Nat, k ≤ 5 ∧ i = .int .i64 k ∧ wr.ownsRow w.heap.size 34 3 v (n + k) (rcs (l ++ marksR k)) ∧ Below w.heap.size w wr) (fun _ i _ => 5 - (intOf i).toNat)
  case atStart => exact ⟨0, by omega, rfl, by rw [show marksR 0 = [] from rfl, List.append_nil]; exact hown1, hB1⟩
  case round =>
    clear hown1 hB1
    obtain ⟨k, hk, rfl, hown, hB⟩ := hrel
    by_cases hlt : k < 5
    · go_wp2_with fail
      refine (markRows_any k wr (by omega) (by omega)).mono ?_
      rintro e w2 ⟨rfl, hB2⟩
      have hown2 := below_own hown hB2
      have hBn := next_below hB hB2
      clear hown hB hB2
      go_wp2_with (at_builtin; (refine wpList_app1 w2 #[.int .i64 (77 + (k : Int)), .int .i64 (-9), .int .i64 3] rfl _ _ 22 rfl w.heap.size 34 (.agg #[.int .i64 0, .int .i64 0, .int .i64 0]) 3 24 Try.underlying22 infoRow rfl (by decide) _ (n + k) _ hown2 rfl rfl rfl (rcs_one [markR k]) (by omega) (by omega) hBn.size ?_); intro g cap w3 hown3 _ hb3 _ _)
      have R : w3.ownsRow w.heap.size 34 3 (.slice (some ⟨g, 0, none⟩) (n + k + 1) cap) (n + (k + 1)) (rcs (l ++ marksR (k + 1))) := by
        rw [marksR_succ, ← List.append_assoc, rcs_append]; exact hown3
      clear hown3
      have hB3 := hBn.trans hb3
      clear hBn hb3 hown2
      go_wp2
      go_roundw
      case rel => exact ⟨k + 1, by omega, by go_num, R, hB3⟩
      case measure => simp [intOf]; omega
    · obtain rfl : k = 5 := by omega
      go_wp2
      go_ret
      exact ⟨_, rfl, hown, hB⟩

theorem markR_ok (k : Nat) (h : k ≤ 1099511627776) : RwOk (markR k) := by
  refine ⟨⟨?_, ?_⟩, ⟨?_, ?_⟩, ⟨?_, ?_⟩⟩ <;> simp only [markR] <;> omega

set_option maxHeartbeats 800000 in
theorem keptRows_yes (P Q : Nat → Prop) (A : Option Addr) (n c : Nat) (l : List Rw) (B : Option Addr) (d : Nat) (w : World) (ha : RR w P A (n + 5) (l ++ marksR 5)) (hb : RR w Q B n l)
    (hP : ∀ i, P i → i < w.heap.size) (hn : n ≤ 1099511627000) (hc : n + 5 ≤ c) (hc2 : c ≤ 9223372036854775807) :
    Calls Try.prog 17 #[.slice A (n + 5 : Nat) c, .slice B n d] w fun e w' => e = .returned (.bool true) ∧ Below w.heap.size w w' := by
  have ha' : RR w P A n l := by
    have := ha.take (k := n) (by omega)
    rwa [List.take_left' hb.len] at this
  go_enter Try.func17, Try.ntmps17
  go_wp2_with fail
  refine (sameRows_any P Q A n c l B n d l w ha' hb (by omega)).mono ?_
  rintro e w1 ⟨rfl, q1, rfl⟩
  go_wp2_with fail
  go_loopw [5] (fun i wr => ∃ k : Nat, k ≤ 5 ∧ i = .int .i64 k ∧ Below w.heap.size w wr) (fun i _ => 5 - (intOf i).toNat)
  case atStart => exact ⟨0, by omega, rfl, below_drewN (Below.refl _ _) _⟩
  case round =>
    obtain ⟨k, hk, rfl, hB⟩ := hrel
    by_cases hlt : k < 5
    · obtain ⟨b1, o1, x, rfl, hPb, hx, _, hc0, hc1, hc3⟩ := ha.cell (k := n + k) (by omega)
      have hxm : x = markR k := by
        rw [List.getElem?_append_right (by rw [hb.len]; omega), hb.len, show n + k - n = k from by omega, marksR_get 5 k hlt] at hx
        exact (Option.some.inj hx).symm
      subst hxm
      have hk0 : ∀ W, Below w.heap.size w W → W.cell? ⟨b1, o1 + (n + k) * 3, none⟩ = some (.int .i64 (77 + (k : Int))) ∧ W.cell? ⟨b1, o1 + (n + k) * 3 + 1, none⟩ = some (.int .i64 (-9)) ∧ W.cell? ⟨b1, o1 + (n + k) * 3 + 2, none⟩ = some (.int .i64 3) :=
        fun W h => ⟨(h.cell (p := ⟨b1, _, none⟩) (hP b1 hPb)).trans hc0, (h.cell (p := ⟨b1, _, none⟩) (hP b1 hPb)).trans hc1, (h.cell (p := ⟨b1, _, none⟩) (hP b1 hPb)).trans hc3⟩
      clear hc0 hc1 hc3 hx
      have heq := equalRow (markR k) (markR k)
      have hdec : decide (markR k = markR k) = true := by simp
      rw [hdec] at heq
      have heq' : ∀ W, (Op.equalIn 10000 34 (.agg #[.int .i64 (77 + (k : Int)), .int .i64 (-9), .int .i64 3]) (.agg #[.int .i64 (77 + (k : Int)), .int .i64 (-9), .int .i64 3])).run Try.prog W = .ok true W := heq
      clear heq hdec
      have hw0 : (0 : Int) ≤ (n : Int) + (k : Int) := by omega
      have hw3 : (n : Int) + (k : Int) < (n : Int) + 5 := by omega
      have hw1 : IntKind.i64.wrap ((n : Int) + (k : Int)) = (n : Int) + (k : Int) := IntWalk.i64_in _ (by omega)
      have hw2 : ((n : Int) + (k : Int)).toNat = n + k := by omega
      obtain ⟨ι, W, hne, hW0, hWB, hWall⟩ := family w.heap.size wr
      have hWb : ∀ n, Below w.heap.size w (W n) := fun n => hB.trans (hWB n)
      have f0 := fun n => (hk0 _ (hWb n)).1
      have f1 := fun n => (hk0 _ (hWb n)).2.1
      have f2 := fun n => (hk0 _ (hWb n)).2.2
      have HWB := Lib.hid hWB
      have HWb := Lib.hid hWb
      have HWall := Lib.hid hWall
      have HB := Lib.hid hB
      clear hWB hWb hWall hk0 hB
      go_wp2_with fail
      refine wp_region_family (by kernel_rfl) (by kernel_rfl) hW0 ?_
      repeat (go_big_quiet_step ((go_at_call 21; exact calls_family (markRows_any k _ (by omega) (by omega)) HWB.out HB.out.size HWall.out)))
      refine wpQuiet_nil ?_
      rintro _ ⟨nq, rfl⟩
      clear hw1 hw2 f0 f1 f2
      go_wp2
      go_roundw
      case rel => exact ⟨k + 1, by omega, by go_num, HWb.out nq⟩
      case measure => simp [intOf]; omega
    · go_wp2
      go_ret
      exact ⟨rfl, hB⟩
end Go.Proofs.Ytgmbfjlobnmhdaa
