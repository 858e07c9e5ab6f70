/- The contracts of package frame, the second part: Put. -/
import Derived.Test.YtinenekbdcbcnaaDoorFrameA
namespace Go.Proofs.YtinenekbdcbcnaaDoor
open Go.RowKit

set_option maxHeartbeats 400000 in
theorem put_kind (k : Int) (A : Option Addr) (n c : Nat) (w : World) (hk : k < 1 ∨ 255 < k) :
    Calls Tryd.prog 33 #[.agg #[.int .i64 k, .slice A n c]] w fun e w' => e = .returned (.tuple #[.slice none 0 0, .int .i64 2]) ∧ Below w.heap.size w w' := by
  by_cases h1 : k < 1
  · have d1 : decide (k < 1) = true := by simp; omega
    go_enter Tryd.func33, Tryd.ntmps33
    go_wp2
    go_ret2
    exact ⟨rfl, (Below.refl _ _).alloc (Nat.le_refl _) _⟩
  · have d1 : decide (k < 1) = false := by simp; omega
    have d2 : decide (255 < k) = true := by simp; omega
    go_enter Tryd.func33, Tryd.ntmps33
    go_wp2
    go_ret2
    exact ⟨rfl, (Below.refl _ _).alloc (Nat.le_refl _) _⟩

set_option maxHeartbeats 400000 in
theorem put_long (k : Int) (A : Option Addr) (n c : Nat) (w : World) (h1 : 1 ≤ k) (h2 : k ≤ 255) (hn : 65536 < n) :
    Calls Tryd.prog 33 #[.agg #[.int .i64 k, .slice A n c]] w fun e w' => e = .returned (.tuple #[.slice none 0 0, .int .i64 5]) ∧ Below w.heap.size w w' := by
  have d1 : decide (k < 1) = false := by simp; omega
  have d2 : decide (255 < k) = false := by simp; omega
  have d3 : decide (65536 < (n : Int)) = true := by simp; omega
  go_enter Tryd.func33, Tryd.ntmps33
  go_wp2
  go_ret2
  exact ⟨rfl, (Below.refl _ _).alloc (Nat.le_refl _) _⟩

theorem b8_int (x : Nat) : ((Fr.b8 x).toNat : Int) = (x : Int) % 256 := by unfold Fr.b8; rw [BitVec.toNat_ofNat]; rfl
theorem head_bytes (k n : Nat) (hk : k ≤ 255) (hn : n ≤ 65536) : bytes (Fr.headL k n) = [.int .u8 (k : Int), .int .u8 ((n : Int) / 65536), .int .u8 ((n : Int) / 256 % 256), .int .u8 ((n : Int) % 256)] := by
  have e1 : (k : Int) % 256 = (k : Int) := by omega
  have e2 : ((n / 65536 : Nat) : Int) % 256 = (n : Int) / 65536 := by omega
  have e3 : ((n / 256 : Nat) : Int) % 256 = (n : Int) / 256 % 256 := by omega
  simp only [Fr.headL, bytes, List.map_cons, List.map_nil, B8, b8_int, e1, e2, e3]
theorem be_int (s : BitVec 32) (i : Nat) : (((s >>> i).setWidth 8).toNat : Int) = (s.toNat : Int) / 2 ^ i % 256 := by
  rw [BitVec.toNat_setWidth, BitVec.toNat_ushiftRight, Nat.shiftRight_eq_div_pow]; simp
theorem tail_bytes (s : BitVec 32) : bytes (Fr.be32 s ++ [10#8]) = [.int .u8 ((s.toNat : Int) / 16777216), .int .u8 ((s.toNat : Int) / 65536 % 256), .int .u8 ((s.toNat : Int) / 256 % 256), .int .u8 ((s.toNat : Int) % 256), .int .u8 10] := by
  have h := s.isLt
  have e0 : ((s.setWidth 8).toNat : Int) = (s.toNat : Int) % 256 := low8 s
  have e1 : (s.toNat : Int) / 2 ^ 24 % 256 = (s.toNat : Int) / 16777216 := by omega
  have e2 : (s.toNat : Int) / 2 ^ 16 % 256 = (s.toNat : Int) / 65536 % 256 := by omega
  have e3 : (s.toNat : Int) / 2 ^ 8 % 256 = (s.toNat : Int) / 256 % 256 := by omega
  simp only [Fr.be32, bytes, List.cons_append, List.nil_append, List.map_cons, List.map_nil, B8, be_int, e0, e1, e2, e3]
  rfl

set_option maxHeartbeats 800000 in
theorem put_ok (k : Nat) (A : Option Addr) (n c : Nat) (bs : List (BitVec 8)) (w : World) (ht : Tabs w) (hb : RB w (· < w.heap.size) A n bs) (h1 : 1 ≤ k) (h2 : k ≤ 255) (hn : n ≤ 65536) :
    Calls Tryd.prog 33 #[.agg #[.int .i64 (k : Int), .slice A n c]] w fun e w' => ∃ v, e = .returned (.tuple #[v, .int .i64 0]) ∧ w'.ownsRow w.heap.size 5 1 v (n + 9) (bytes (Fr.bytesOf k bs)) ∧ Below w.heap.size w w' := by
  have d1 : decide ((k : Int) < 1) = false := by simp; omega
  have d2 : decide (255 < (k : Int)) = false := by simp; omega
  have d3 : decide (65536 < (n : Int)) = false := by simp; omega
  go_enter Tryd.func33, Tryd.ntmps33
  go_wp2_with fail
  have hH := head_bytes k n h2 hn
  obtain ⟨W1, hW1⟩ : ∃ W1, W1 = w.alloc (.cells #[.int .i64 (k : Int), .slice A n c] 48) := ⟨_, rfl⟩
  have b1 : Below w.heap.size w W1 := by rw [hW1]; exact (Below.refl _ _).alloc (Nat.le_refl _) _
  have z1 : W1.heap.size = w.heap.size + 1 := by rw [hW1]; simp
  obtain ⟨W2, hW2⟩ : ∃ W2, W2 = W1.alloc (.cells #[.int .u8 (k : Int), .int .u8 ((n : Int) / 65536), .int .u8 ((n : Int) / 256 % 256), .int .u8 ((n : Int) % 256)] 5) := ⟨_, rfl⟩
  have b2 : Below W1.heap.size W1 W2 := by rw [hW2]; exact (Below.refl _ _).alloc (Nat.le_refl _) _
  have z2 : W2.heap.size = w.heap.size + 2 := by rw [hW2]; simp; omega
  have r2 : RB W2 (· < W2.heap.size) (some ⟨w.heap.size + 1, 0, none⟩) 4 (Fr.headL k n) := by
    have h := (RB.new W1 (Fr.headL k n) 5 (0, 0)).more (Q := (· < W2.heap.size)) fun i hi => by rw [hi, z1, z2]; omega
    rw [hH, z1] at h
    rw [hW2]
    rw [hW2] at h
    exact h
  obtain ⟨W3, hW3⟩ : ∃ W3, W3 = W2.alloc (.cells #[.slice (some ⟨w.heap.size + 1, 0, none⟩) 4 4, .slice A n c] 23) := ⟨_, rfl⟩
  have b3 : Below W2.heap.size W2 W3 := by rw [hW3]; exact (Below.refl _ _).alloc (Nat.le_refl _) _
  have z3 : W3.heap.size = w.heap.size + 3 := by rw [hW3]; simp; omega
  have p0 : W3.cell? ⟨w.heap.size + 2, 0, none⟩ = some (.slice (some ⟨w.heap.size + 1, 0, none⟩) 4 4) := by rw [hW3, World.cell?_alloc_at _ _ _ _ (by simp [z2])]; rfl
  have p1 : W3.cell? ⟨w.heap.size + 2, 1, none⟩ = some (.slice A n c) := by rw [hW3, World.cell?_alloc_at _ _ _ _ (by simp [z2])]; rfl
  have r3 : RB W3 (· < W3.heap.size) (some ⟨w.heap.size + 1, 0, none⟩) 4 (Fr.headL k n) := (r2.below b3).more fun i hi => Nat.lt_of_lt_of_le hi b3.size
  have k3 : Below w.heap.size w W3 := next_below (next_below b1 b2) b3
  have rb : RB W3 (· < W3.heap.size) A n bs := (hb.below k3).more fun i hi => Nat.lt_of_lt_of_le hi k3.size
  rw [← hW1, ← hW2, ← hW3]
  clear hW1 hW2 hW3 b1 b2 b3 r2 hH
  refine (concat_two (w.heap.size + 2) _ 4 4 (Fr.headL k n) A n c bs W3 (by omega) p0 p1 r3 rb (by decide) (by decide) (by omega)).mono ?_
  rintro e w4 ⟨v, rfl, hown, hB⟩
  have k4 := next_below k3 hB
  obtain ⟨Q, hQ⟩ : ∃ Q, Q = Fr.headL k n ++ bs := ⟨_, rfl⟩
  rw [← hQ] at hown
  have hown := own_base hown (base' := w.heap.size) (by omega)
  obtain ⟨S, cs, rfl, hcs, hcs2, _⟩ := own_form hown
  have rS : RB w4 (· < w4.heap.size) S (4 + n) Q := (own_reads hown).more fun _ h => h.2
  have ht4 := ht.below k4 ht.size
  have HQ := Lib.hid hQ
  have z4 := k4.size
  clear hQ p0 p1 r3 rb hB k3 z1 z2 z3
  go_wp2_with fail
  refine (sum_any _ S (4 + n) cs Q w4 rS ht4 (by omega)).mono ?_
  rintro e w5 ⟨rfl, q, rfl⟩
  obtain ⟨s, hs⟩ : ∃ s, s = CrcM.more 0#32 Q := ⟨_, rfl⟩
  rw [← hs]
  have HS := Lib.hid hs
  clear hs rS ht4
  have hT := tail_bytes s
  obtain ⟨W6, hW6⟩ : ∃ W6, W6 = (w4.drewN q).alloc (.cells (bytes (Fr.be32 s ++ [10#8])).toArray 5) := ⟨_, rfl⟩
  have r6 : RB W6 (· = (w4.drewN q).heap.size) (some ⟨w4.heap.size, 0, none⟩) 5 (Fr.be32 s ++ [10#8]) := by rw [hW6]; exact RB.new (w4.drewN q) (Fr.be32 s ++ [10#8]) 5 (0, 0)
  have hown6 : W6.ownsRow w.heap.size 5 1 (.slice S (4 + n) cs) (4 + n) (bytes Q) := by rw [hW6]; exact (own_drewN hown q).alloc _
  have k6 : Below w.heap.size w W6 := by rw [hW6]; exact (below_drewN k4 q).alloc z4 _
  rw [hT] at hW6
  have k66 := k6.size
  have HW := Lib.hid hW6
  clear hT hW6
  go_wp2_with (at_builtin; (rw [← show W6 = _ from HW.out]; go_loud (refine wpList_appN _ rfl _ _ 23 rfl w.heap.size 5 (.int .u8 0) 1 1 Tryd.underlying23 infoU8 rfl (by decide) _ (4 + n) _ hown6 rfl _ _ 5 5 _ r6 rfl (bytes_one _) (by omega) (by omega) k66 ?_)); intro v7 w7 hown7 _ hb7 _)
  have R : w7.ownsRow w.heap.size 5 1 v7 (n + 9) (bytes (Fr.bytesOf k bs)) := by
    have e : 4 + n + 5 = n + 9 := by omega
    rw [e, ← bytes_append, HS.out, HQ.out] at hown7
    unfold Fr.bytesOf
    rw [hb.len]
    exact hown7
  have k7 := k6.trans hb7
  clear hown7 hb7
  go_wp2
  go_ret2
  exact ⟨_, rfl, R, k7⟩
end Go.Proofs.YtinenekbdcbcnaaDoor
