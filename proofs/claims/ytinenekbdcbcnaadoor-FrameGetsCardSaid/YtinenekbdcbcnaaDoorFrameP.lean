/- The contracts of quaysideref03.Put. -/
import Derived.Test.YtinenekbdcbcnaaDoorFrameHeads
import Derived.Test.YtinenekbdcbcnaaDoorFrameM3
namespace Go.Proofs.YtinenekbdcbcnaaDoor
open Go.RowKit

set_option maxHeartbeats 400000 in
theorem refPut_kind (k : Int) (A : Option Addr) (n c : Nat) (w : World) (hk : k < 1 ∨ 255 < k) :
    Calls Tryd.prog 34 #[.agg #[.int .i64 k, .slice A n c]] w fun e w' => e = .returned (.tuple #[.slice none 0 0, .int .i64 2]) ∧ Below w.heap.size w w' := by
  by_cases h1 : k < 1
  · have d1 : decide (k < 1) = true := by simp; omega
    go_enter Tryd.func34, Tryd.ntmps34
    go_wp2
    go_ret2
    exact ⟨rfl, (Below.refl _ _).alloc (Nat.le_refl _) _⟩
  · have d1 : decide (k < 1) = false := by simp; omega
    have d2 : decide (255 < k) = true := by simp; omega
    go_enter Tryd.func34, Tryd.ntmps34
    go_wp2
    go_ret2
    exact ⟨rfl, (Below.refl _ _).alloc (Nat.le_refl _) _⟩

set_option maxHeartbeats 400000 in
theorem refPut_long (k : Int) (A : Option Addr) (n c : Nat) (w : World) (h1 : 1 ≤ k) (h2 : k ≤ 255) (hn : 65536 < n) :
    Calls Tryd.prog 34 #[.agg #[.int .i64 k, .slice A n c]] w fun e w' => e = .returned (.tuple #[.slice none 0 0, .int .i64 5]) ∧ Below w.heap.size w w' := by
  have d1 : decide (k < 1) = false := by simp; omega
  have d2 : decide (255 < k) = false := by simp; omega
  have d3 : decide (65536 < (n : Int)) = true := by simp; omega
  go_enter Tryd.func34, Tryd.ntmps34
  go_wp2
  go_ret2
  exact ⟨rfl, (Below.refl _ _).alloc (Nat.le_refl _) _⟩

set_option maxHeartbeats 1600000 in
set_option maxRecDepth 100000 in
theorem refPut_ok (k : Nat) (A : Option Addr) (n c : Nat) (bs : List (BitVec 8)) (w : World) (hb : RB w (· < w.heap.size) A n bs) (h1 : 1 ≤ k) (h2 : k ≤ 255) (hn : n ≤ 65536) :
    Calls Tryd.prog 34 #[.agg #[.int .i64 (k : Int), .slice A n c]] w fun e w' => ∃ v, e = .returned (.tuple #[v, .int .i64 0]) ∧ w'.ownsRow w.heap.size 5 1 v (n + 9) (bytes (Fr.bytesOf k bs)) ∧ Below w.heap.size w w' := by
  have d1 : decide ((k : Int) < 1) = false := by simp; omega
  have d2 : decide (255 < (k : Int)) = false := by simp; omega
  have d3 : decide (65536 < (n : Int)) = false := by simp; omega
  have hH := head_bytes k n h2 hn
  obtain ⟨W1, hW1⟩ : ∃ W1, W1 = w.alloc (.cells #[.int .i64 (k : Int), .slice A n c] 48) := ⟨_, rfl⟩
  have b1 : Below w.heap.size w W1 := by rw [hW1]; exact (Below.refl _ _).alloc (Nat.le_refl _) _
  have z1 : W1.heap.size = w.heap.size + 1 := by rw [hW1]; simp
  have p1 : W1.cell? ⟨w.heap.size, 1, none⟩ = some (.slice A n c) := by rw [hW1, World.cell?_alloc_new]; rfl
  obtain ⟨W2, hW2⟩ : ∃ W2, W2 = W1.alloc (.cells (bytes (Fr.headL k n)).toArray 5) := ⟨_, rfl⟩
  have b2 : Below W1.heap.size W1 W2 := by rw [hW2]; exact (Below.refl _ _).alloc (Nat.le_refl _) _
  have o2 : W2.ownsRow W1.heap.size 5 1 (.slice (some ⟨w.heap.size + 1, 0, none⟩) 4 4) 4 (bytes (Fr.headL k n)) := by
    rw [hW2, ← z1]; exact own_lit W1 _ 4 rfl (by decide)
  rw [hH] at hW2
  have hb1 := (hb.below b1).more (Q := (· < W1.heap.size)) fun i hi => Nat.lt_of_lt_of_le hi b1.size
  go_enter Tryd.func34, Tryd.ntmps34
  go_wp2
  rw [← hW1, ← hW2]
  clear hW1 hW2 hH
  go_loopw [5, 6] (fun v i wr => ∃ j : Nat, j ≤ n ∧ i = .int .i64 j ∧ wr.ownsRow W1.heap.size 5 1 v (4 + j) (bytes (Fr.headL k n ++ bs.take j)) ∧ Below W1.heap.size W1 wr) (fun _ i _ => n - (intOf i).toNat)
  case atStart => exact ⟨0, by omega, rfl, by rw [List.take_zero, List.append_nil]; exact o2, b2⟩
  case round =>
    clear o2 b2
    obtain ⟨j, hj, rfl, hown, hB⟩ := hrel
    have q1 : wr.cell? ⟨w.heap.size, 1, none⟩ = some (.slice A n c) := (hB.cell (p := ⟨w.heap.size, 1, none⟩) (by show w.heap.size < _; omega)).trans p1
    have hsz := hB.size
    by_cases hlt : j < n
    · obtain ⟨b, off, x, rfl, hbb, hx, hc⟩ := (hb1.below hB).cell hlt
      have hts := take_succ_get bs j x hx
      have HTS := Lib.hid hts
      clear hts hx
      go_wp2_with (at_builtin; refine wpList_app1 wr #[.int .u8 (x.toNat : Int)] rfl _ _ 23 rfl W1.heap.size 5 (.int .u8 0) 1 1 Tryd.underlying23 infoU8 rfl (by decide) _ (4 + j) _ hown rfl rfl rfl (one1 _ rfl) (by omega) (by omega) hsz ?_; intro g cap w3 hown3 _ hb3 _ _)
      have R : w3.ownsRow W1.heap.size 5 1 (.slice (some ⟨g, 0, none⟩) (4 + j + 1) cap) (4 + (j + 1)) (bytes (Fr.headL k n ++ bs.take (j + 1))) := by
        rw [HTS.out, ← List.append_assoc, bytes_append]; exact hown3
      have hB3 := hB.trans hb3
      clear hown3 hown hB hb3 hc q1
      go_wp2
      go_roundw
      case rel => exact ⟨j + 1, by omega, by go_num, R, hB3⟩
      case measure => simp [intOf]; omega
    · obtain rfl : j = n := by omega
      rw [List.take_of_length_le (Nat.le_of_eq hb.len)] at hown
      obtain ⟨Q, hQ⟩ : ∃ Q, Q = Fr.headL k j ++ bs := ⟨_, rfl⟩
      rw [← hQ] at hown
      obtain ⟨S, cs, rfl, hcs, hcs2, _⟩ := own_form hown
      have rS : RB wr (· < wr.heap.size) S (4 + j) Q := (own_reads hown).more fun _ h => h.2
      have HQ := Lib.hid hQ
      have kr := b1.trans (hB.mono (by omega))
      clear hQ q1
      go_wp2_with fail
      refine (refSum_any _ S (4 + j) cs Q wr rS (fun _ h => h) (by omega)).mono ?_
      rintro e w5 ⟨rfl, b5⟩
      have hown5 := own_base (own_below hown b5) (base' := w.heap.size) (by omega)
      have k5 := next_below kr b5
      have z5 := k5.size
      obtain ⟨s, hs⟩ : ∃ s, s = CrcM.more 0#32 Q := ⟨_, rfl⟩
      rw [← hs]
      have HS := Lib.hid hs
      clear hs rS hown hB b5
      have hT := tail_bytes s
      obtain ⟨W6, hW6⟩ : ∃ W6, W6 = w5.alloc (.cells (bytes (Fr.be32 s ++ [10#8])).toArray 5) := ⟨_, rfl⟩
      have r6 : RB W6 (· = w5.heap.size) (some ⟨w5.heap.size, 0, none⟩) 5 (Fr.be32 s ++ [10#8]) := by rw [hW6]; exact RB.new w5 (Fr.be32 s ++ [10#8]) 5 (0, 0)
      have hown6 : W6.ownsRow w.heap.size 5 1 (.slice S (4 + j) cs) (4 + j) (bytes Q) := by rw [hW6]; exact hown5.alloc _
      have k6 : Below w.heap.size w W6 := by rw [hW6]; exact k5.alloc z5 _
      rw [hT] at hW6
      have k66 := k6.size
      have HW := Lib.hid hW6
      clear hT hW6
      go_wp2_with (at_builtin; (rw [← show W6 = _ from HW.out]; go_loud (refine wpList_appN _ rfl _ _ 23 rfl w.heap.size 5 (.int .u8 0) 1 1 Tryd.underlying23 infoU8 rfl (by decide) _ (4 + j) _ hown6 rfl _ _ 5 5 _ r6 rfl (bytes_one _) (by omega) (by omega) k66 ?_)); intro v7 w7 hown7 _ hb7 _)
      have R : w7.ownsRow w.heap.size 5 1 v7 (j + 9) (bytes (Fr.bytesOf k bs)) := by
        have e : 4 + j + 5 = j + 9 := by omega
        rw [e, ← bytes_append, HS.out, HQ.out] at hown7
        unfold Fr.bytesOf
        rw [hb.len]
        exact hown7
      have k7 := k6.trans hb7
      clear hown7 hb7
      go_wp2
      go_ret2
      exact ⟨_, rfl, R, k7⟩
end Go.Proofs.YtinenekbdcbcnaaDoor
