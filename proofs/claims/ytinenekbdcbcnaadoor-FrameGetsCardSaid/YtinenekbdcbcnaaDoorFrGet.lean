/- The contract of quaysideref03.Get. -/
import Derived.Test.YtinenekbdcbcnaaDoorFrScan
namespace Go.Proofs.YtinenekbdcbcnaaDoor
open Go.RowKit

theorem Fr.sum_of_bytes {b : List (BitVec 8)} (h4 : 4 ≤ b.length) (hL9 : Fr.lenL b + 9 ≤ b.length) (he : Fr.bytesOf (b.getD 0 0).toNat ((b.drop 4).take (Fr.lenL b)) = b.take (Fr.lenL b + 9)) :
    Fr.be32 (CrcM.more 0#32 (b.take (Fr.lenL b + 4))) ++ [10#8] = (b.drop (Fr.lenL b + 4)).take 5 := by
  obtain ⟨L, hL⟩ : ∃ L, L = Fr.lenL b := ⟨_, rfl⟩
  rw [← hL] at he hL9 ⊢
  obtain ⟨bd, hbd⟩ : ∃ bd, bd = (b.drop 4).take L := ⟨_, rfl⟩
  have hbl : bd.length = L := by rw [hbd]; simp; omega
  rw [← hbd] at he
  obtain ⟨Q, hQ⟩ : ∃ Q, Q = Fr.headL (b.getD 0 0).toNat bd.length ++ bd := ⟨_, rfl⟩
  have hQl : Q.length = L + 4 := by rw [hQ, List.length_append, Fr.headL_length, hbl]; omega
  have hF : Fr.bytesOf (b.getD 0 0).toNat bd = Q ++ (Fr.be32 (CrcM.more 0#32 Q) ++ [10#8]) := by rw [hQ]; rfl
  rw [hF] at he
  have h1 : Q = b.take (L + 4) := by
    have := congrArg (List.take (L + 4)) he
    rw [List.take_left' hQl, List.take_take, Nat.min_eq_left (by omega)] at this
    exact this
  have h2 : Fr.be32 (CrcM.more 0#32 Q) ++ [10#8] = (b.drop (L + 4)).take 5 := by
    have := congrArg (List.drop (L + 4)) he
    rw [List.drop_left' hQl, List.drop_take, show L + 9 - (L + 4) = 5 from by omega] at this
    exact this
  rw [← h1]; exact h2
theorem getD_some {l : List (BitVec 8)} {i : Nat} {x : BitVec 8} (h : l[i]? = some x) : l.getD i 0 = x := by rw [List.getD, h]; rfl

set_option maxHeartbeats 1600000 in
set_option maxRecDepth 100000 in
theorem refGet_any (A : Option Addr) (n c : Nat) (bs : List (BitVec 8)) (w : World) (hb : RB w (· < w.heap.size) A n bs) (hn : n ≤ 1099511627000) (hc : n ≤ c) (hc2 : c ≤ 9223372036854775807) :
    Calls Tryd.prog 37 #[.slice A n c] w fun e w' => ∃ v, e = .returned (.tuple #[.agg #[.int .i64 ((Fr.getL bs).1 : Int), v], .int .i64 ((Fr.getL bs).2.2.1 : Int), .int .i64 (Fr.getL bs).2.2.2]) ∧ w'.ownsRow w.heap.size 5 1 v (Fr.getL bs).2.1.length (bytes (Fr.getL bs).2.1) ∧ Below w.heap.size w w' := by
  obtain ⟨w0, hw0⟩ : ∃ w0, w0 = w.alloc (.cells #[.int .i64 0, .slice none 0 0] 48) := ⟨_, rfl⟩
  have k0 : Below w.heap.size w w0 := by rw [hw0]; exact (Below.refl _ _).alloc (Nat.le_refl _) _
  have z0 : w0.heap.size = w.heap.size + 1 := by rw [hw0]; simp
  have c0 : w0.cell? ⟨w.heap.size, 0, none⟩ = some (.int .i64 0) := by rw [hw0, World.cell?_alloc_new]; rfl
  have c1 : w0.cell? ⟨w.heap.size, 1, none⟩ = some (.slice none 0 0) := by rw [hw0, World.cell?_alloc_new]; rfl
  have f0 : ∀ i, w0.frozen? ⟨w.heap.size, i, none⟩ = false := fun i => by rw [hw0]; exact World.frozen?_alloc_at _ _ _ i rfl
  have hb0 := (hb.below k0).more (Q := (· < w0.heap.size)) fun i hi => Nat.lt_of_lt_of_le hi k0.size
  -- what the call hands back where something is wrong
  have bad : ∀ (W : World) (E : Int), Below w0.heap.size w0 W → Below w.heap.size w ((W.setCell ⟨w.heap.size, 0, none⟩ (.int .i64 0)).setCell ⟨w.heap.size, 1, none⟩ (.slice none 0 0)) ∧
      ((W.setCell ⟨w.heap.size, 0, none⟩ (.int .i64 0)).setCell ⟨w.heap.size, 1, none⟩ (.slice none 0 0)).cell? ⟨w.heap.size, 0, none⟩ = some (.int .i64 0) ∧
      ((W.setCell ⟨w.heap.size, 0, none⟩ (.int .i64 0)).setCell ⟨w.heap.size, 1, none⟩ (.slice none 0 0)).cell? ⟨w.heap.size, 1, none⟩ = some (.slice none 0 0) := by
    intro W E h
    have d0 := (h.cell (p := ⟨w.heap.size, 0, none⟩) (by show w.heap.size < _; omega)).trans c0
    have d1 := (h.cell (p := ⟨w.heap.size, 1, none⟩) (by show w.heap.size < _; omega)).trans c1
    exact ⟨((next_below k0 h).setCell (p := ⟨w.heap.size, 0, none⟩) (Nat.le_refl _) _).setCell (p := ⟨w.heap.size, 1, none⟩) (Nat.le_refl _) _,
      (World.cell?_setCell_other _ _ _ _ (by simp)).trans (World.cell?_setCell_same _ _ _ d0), World.cell?_setCell_same _ _ _ ((World.cell?_setCell_other _ _ _ _ (by simp)).trans d1)⟩
  have BAD := Lib.hid bad
  clear bad
  by_cases h4 : n < 4
  · have d4 : decide ((n : Int) < 4) = true := by simp; omega
    have hg := Fr.getL_short (b := bs) (by rw [hb.len]; exact h4)
    rw [hg]
    go_enter Tryd.func37, Tryd.ntmps37
    go_wp2
    refine bodyPost_ret (v := .tuple #[.agg #[.int .i64 0, .slice none 0 0], .int .i64 0, .int .i64 4]) ?_ rfl ⟨_, rfl, World.ownsRow_nil _ _ _ _, (Below.refl _ _).alloc (Nat.le_refl _) _⟩
    simp [results, Tryd.results37, go_sem]
  have d4 : decide ((n : Int) < 4) = false := by simp; omega
  have h4' : ¬ bs.length < 4 := by rw [hb.len]; exact h4
  obtain ⟨b, off, x0, rfl, hbb, hx0, hc0⟩ := hb0.cell (k := 0) (by omega)
  obtain ⟨_, _, x1, hA1, _, hx1, hc1⟩ := hb0.cell (k := 1) (by omega)
  cases hA1
  obtain ⟨_, _, x2, hA2, _, hx2, hc2'⟩ := hb0.cell (k := 2) (by omega)
  cases hA2
  obtain ⟨_, _, x3, hA3, _, hx3, hc3⟩ := hb0.cell (k := 3) (by omega)
  cases hA3
  have hX := getD_some hx0
  have hn1 : (0 : Int) < (n : Int) := by omega
  have hn2 : (1 : Int) < (n : Int) := by omega
  have hn3 : (2 : Int) < (n : Int) := by omega
  have hn4 : (3 : Int) < (n : Int) := by omega
  rw [Nat.add_zero] at hc0
  by_cases hz : x0 = 0#8
  · have dz := byte_zero x0
    rw [decide_eq_true hz] at dz
    have hg := Fr.getL_kind h4' (by rw [hX]; exact hz)
    rw [hg]
    rw [hw0] at hc0
    clear hz hg hX hx0 hx1 hx2 hx3 hc1 hc2' hc3
    go_enter Tryd.func37, Tryd.ntmps37
    go_wp2
    refine bodyPost_ret (v := .tuple #[.agg #[.int .i64 0, .slice none 0 0], .int .i64 0, .int .i64 2]) ?_ rfl ⟨_, rfl, World.ownsRow_nil _ _ _ _, (Below.refl _ _).alloc (Nat.le_refl _) _⟩
    simp [results, Tryd.results37, go_sem]
  have dz := byte_zero x0
  rw [decide_eq_false hz] at dz
  have hzb : ¬ bs.getD 0 0 = 0#8 := by rw [hX]; exact hz
  have i1 := x1.isLt
  have i2 := x2.isLt
  have i3 := x3.isLt
  have i0 := x0.isLt
  obtain ⟨L, hLL⟩ : ∃ L, L = Fr.lenL bs := ⟨_, rfl⟩
  have hLs : L = 65536 * x1.toNat + 256 * x2.toNat + x3.toNat := by rw [hLL]; unfold Fr.lenL; rw [getD_some hx1, getD_some hx2, getD_some hx3]
  have y0 : IntKind.i64.wrap (x0.toNat : Int) = (x0.toNat : Int) := IntWalk.i64_in _ (by omega)
  have y1 : IntKind.i64.wrap (x1.toNat : Int) = (x1.toNat : Int) := IntWalk.i64_in _ (by omega)
  have y2 : IntKind.i64.wrap (x2.toNat : Int) = (x2.toNat : Int) := IntWalk.i64_in _ (by omega)
  have y3 : IntKind.i64.wrap (x3.toNat : Int) = (x3.toNat : Int) := IntWalk.i64_in _ (by omega)
  have y4 : IntKind.i64.wrap (65536 * (x1.toNat : Int)) = 65536 * (x1.toNat : Int) := IntWalk.i64_in _ (by omega)
  have y5 : IntKind.i64.wrap (256 * (x2.toNat : Int)) = 256 * (x2.toNat : Int) := IntWalk.i64_in _ (by omega)
  have y6 : IntKind.i64.wrap (65536 * (x1.toNat : Int) + 256 * (x2.toNat : Int)) = 65536 * (x1.toNat : Int) + 256 * (x2.toNat : Int) := IntWalk.i64_in _ (by omega)
  have y7 : IntKind.i64.wrap (65536 * (x1.toNat : Int) + 256 * (x2.toNat : Int) + (x3.toNat : Int)) = (L : Int) := (IntWalk.i64_in _ (by omega)).trans (by omega)
  have y9 : IntKind.i64.wrap ((L : Int) + 9) = (L : Int) + 9 := IntWalk.i64_in _ (by omega)
  have y10 : IntKind.i64.wrap (4 + (L : Int)) = 4 + (L : Int) := IntWalk.i64_in _ (by omega)
  have HLL := Lib.hid hLL
  have HX := Lib.hid hX
  have hw0' := hw0
  rw [hw0] at hc0 hc1 hc2' hc3
  clear hLL hX hx0 hx1 hx2 hx3 hw0'
  by_cases hl : 65536 < L
  · have dl : decide (65536 < (L : Int)) = true := by simp; omega
    have hg := Fr.getL_long h4' hzb (by rw [← HLL.out]; exact hl)
    rw [hg]
    clear hg hz hLs
    go_enter Tryd.func37, Tryd.ntmps37
    go_wp2
    go_quiet (fail)
    rw [← hw0]
    obtain ⟨w1, hw1⟩ : ∃ w1, w1 = w0.drewN nq := ⟨_, rfl⟩
    have b1 : Below w0.heap.size w0 w1 := by rw [hw1]; exact below_drewN (Below.refl _ _) _
    have g0 : w1.cell? ⟨w.heap.size, 0, none⟩ = some (.int .i64 0) := by rw [hw1]; exact c0
    have g1 : w1.cell? ⟨w.heap.size, 1, none⟩ = some (.slice none 0 0) := by rw [hw1]; exact c1
    have g2 : w1.frozen? ⟨w.heap.size, 0, none⟩ = false := by rw [hw1]; exact f0 0
    have g3 : w1.frozen? ⟨w.heap.size, 1, none⟩ = false := by rw [hw1]; exact f0 1
    have hb1 : RB w1 (· < w1.heap.size) (some ⟨b, off, none⟩) n bs := by rw [hw1]; exact hb0
    rw [← hw1]
    clear hw1 hw0
    obtain ⟨B1, r0, r1⟩ := BAD.out w1 5 b1
    go_wp2
    refine bodyPost_ret (v := .tuple #[.agg #[.int .i64 0, .slice none 0 0], .int .i64 0, .int .i64 5]) ?_ rfl ⟨_, rfl, World.ownsRow_nil _ _ _ _, B1⟩
    simp [results, Tryd.results37, go_sem, r0, r1]
  have dl : decide (65536 < (L : Int)) = false := by simp; omega
  have hlb : ¬ 65536 < Fr.lenL bs := by rw [← HLL.out]; exact hl
  by_cases hs : n < L + 9
  · have ds : decide ((n : Int) < (L : Int) + 9) = true := by simp; omega
    have hg := Fr.getL_short2 h4' hzb hlb (by rw [hb.len, ← HLL.out]; exact hs)
    rw [hg]
    clear hg hz hLs
    go_enter Tryd.func37, Tryd.ntmps37
    go_wp2
    go_quiet (fail)
    rw [← hw0]
    obtain ⟨w1, hw1⟩ : ∃ w1, w1 = w0.drewN nq := ⟨_, rfl⟩
    have b1 : Below w0.heap.size w0 w1 := by rw [hw1]; exact below_drewN (Below.refl _ _) _
    have g0 : w1.cell? ⟨w.heap.size, 0, none⟩ = some (.int .i64 0) := by rw [hw1]; exact c0
    have g1 : w1.cell? ⟨w.heap.size, 1, none⟩ = some (.slice none 0 0) := by rw [hw1]; exact c1
    have g2 : w1.frozen? ⟨w.heap.size, 0, none⟩ = false := by rw [hw1]; exact f0 0
    have g3 : w1.frozen? ⟨w.heap.size, 1, none⟩ = false := by rw [hw1]; exact f0 1
    have hb1 : RB w1 (· < w1.heap.size) (some ⟨b, off, none⟩) n bs := by rw [hw1]; exact hb0
    rw [← hw1]
    clear hw1 hw0
    obtain ⟨B1, r0, r1⟩ := BAD.out w1 4 b1
    go_wp2
    refine bodyPost_ret (v := .tuple #[.agg #[.int .i64 0, .slice none 0 0], .int .i64 0, .int .i64 4]) ?_ rfl ⟨_, rfl, World.ownsRow_nil _ _ _ _, B1⟩
    simp [results, Tryd.results37, go_sem, r0, r1]
  have ds : decide ((n : Int) < (L : Int) + 9) = false := by simp; omega
  have hsb : ¬ bs.length < Fr.lenL bs + 9 := by rw [hb.len, ← HLL.out]; exact hs
  obtain ⟨bd, hbd⟩ : ∃ bd, bd = (bs.drop 4).take L := ⟨_, rfl⟩
  have hbl : bd.length = L := by rw [hbd]; have := hb.len; simp; omega
  have hx01 : 1 ≤ x0.toNat := by
    have : x0.toNat ≠ 0 := fun e => hz (BitVec.eq_of_toNat_eq e)
    omega
  have HBD := Lib.hid hbd
  have HBL := Lib.hid hbl
  clear hz hLs hbd hbl
  go_enter Tryd.func37, Tryd.ntmps37
  go_wp2
  go_quiet (fail)
  rw [← hw0]
  obtain ⟨w1, hw1⟩ : ∃ w1, w1 = w0.drewN nq := ⟨_, rfl⟩
  have b1 : Below w0.heap.size w0 w1 := by rw [hw1]; exact below_drewN (Below.refl _ _) _
  have g0 : w1.cell? ⟨w.heap.size, 0, none⟩ = some (.int .i64 0) := by rw [hw1]; exact c0
  have g1 : w1.cell? ⟨w.heap.size, 1, none⟩ = some (.slice none 0 0) := by rw [hw1]; exact c1
  have g2 : w1.frozen? ⟨w.heap.size, 0, none⟩ = false := by rw [hw1]; exact f0 0
  have g3 : w1.frozen? ⟨w.heap.size, 1, none⟩ = false := by rw [hw1]; exact f0 1
  have hb1 : RB w1 (· < w1.heap.size) (some ⟨b, off, none⟩) n bs := by rw [hw1]; exact hb0
  rw [← hw1]
  clear hw1 hw0
  have hc4 : ¬ c = 4 := by omega
  have HTN := Lib.hid (show ((4 : Int) + (L : Int)).toNat - 4 = L from by omega)
  have hi4 : (4 : Int) ≤ 4 + (L : Int) := by omega
  have hi5 : 4 + (L : Int) ≤ (c : Int) := by omega
  have rbd : RB w1 (· < w1.heap.size) (some ⟨b, off + 4, none⟩) L bd := by
    rw [HBD.out]; exact (hb1.drop (k := 4) (by omega) (some ⟨b, off + 4, none⟩) (fun _ => rfl)).take (by omega)
  have c0' := (hb1.cell (k := 0) (by omega))
  obtain ⟨_, _, x0', hA, _, hx0', hc0'⟩ := c0'
  cases hA
  have e0 : x0' = x0 := by have := getD_some hx0'; rw [HX.out] at this; exact this.symm
  subst e0
  rw [Nat.add_zero] at hc0'
  have hnil : w1.ownsRow w0.heap.size 5 1 (.slice none 0 0) 0 [] := World.ownsRow_nil _ _ _ _
  have hz1 := b1.size
  clear hc0 hc1 hc2' hc3 hx0'
  go_upto_region 12 with (at_builtin; go_loud (refine wpList_appN w1 rfl _ _ 23 rfl w0.heap.size 5 (.int .u8 0) 1 1 Tryd.underlying23 infoU8 rfl (by decide) _ 0 _ hnil rfl _ _ _ (c - 4) _ (by rw [← HTN.out] at rbd; exact rbd) rfl (bytes_one _) (by omega) (by omega) hz1 ?_); intro v2 w2 o2 _ b2 _)
  rw [show 0 + (4 + L - 4) = L from by omega, List.nil_append] at o2
  obtain ⟨A2, c2, rfl, _, _, _⟩ := own_form o2
  have B2 := b1.trans b2
  have hz2 := B2.size
  have hbw2 := (hb0.below B2).more (Q := (· < w2.heap.size)) fun i hi => Nat.lt_of_lt_of_le hi hz2
  have hc0w := hbw2.cell (k := 0) (by omega)
  obtain ⟨_, _, x0'', hA, _, hx0'', hc0w⟩ := hc0w
  cases hA
  have e0 : x0'' = x0' := by have := getD_some hx0''; rw [HX.out] at this; exact this.symm
  subst e0
  rw [Nat.add_zero] at hc0w
  obtain ⟨w3, hw3⟩ : ∃ W, W = w2.alloc (.cells #[.int .i64 (x0''.toNat : Int), .slice A2 L c2] 48) := ⟨_, rfl⟩
  have b3 : Below w2.heap.size w2 w3 := by rw [hw3]; exact (Below.refl _ _).alloc (Nat.le_refl _) _
  have z3 : w2.heap.size < w3.heap.size := by rw [hw3]; simp
  have p0 : w3.cell? ⟨w2.heap.size, 0, none⟩ = some (.int .i64 (x0''.toNat : Int)) := by rw [hw3, World.cell?_alloc_new]; rfl
  have p1 : w3.cell? ⟨w2.heap.size, 1, none⟩ = some (.slice A2 L c2) := by rw [hw3, World.cell?_alloc_new]; rfl
  have B3 : Below w0.heap.size w0 w3 := B2.trans (b3.mono hz2)
  have o3 := own_below o2 b3
  have r3 : RB w3 (· < w3.heap.size) A2 L bd := (own_reads o3).more fun _ h => h.2
  have HW3 := Lib.hid hw3
  clear hw3 hx0'' hc0' g0 g1 g2 g3 hb1 rbd hnil b1 b2 o2 hz1
  go_wp2_with fail
  rw [← HW3.out]
  refine (refPut_ok x0''.toNat A2 L c2 bd w3 r3 hx01 (by omega) (by omega)).mono ?_
  rintro e w4 ⟨v4, rfl, o4, b4⟩
  obtain ⟨Y, cY, rfl, _, _, _⟩ := own_form o4
  obtain ⟨F, hF⟩ : ∃ F, F = Fr.bytesOf x0''.toNat bd := ⟨_, rfl⟩
  rw [← hF] at o4
  have hFl : F.length = L + 9 := by rw [hF, Fr.bytesOf_length, HBL.out]
  have rF : RB w4 (· < w4.heap.size) Y (L + 9) F := (own_reads o4).more fun _ h => h.2
  have B4 := next_below B3 b4
  have o4' := own_below o3 b4
  have hbw : RB w4 (· < w4.heap.size) (some ⟨b, off, none⟩) n bs := (hb0.below B4).more fun i hi => Nat.lt_of_lt_of_le hi B4.size
  have p0 := (b4.cell (p := ⟨w2.heap.size, 0, none⟩) z3).trans p0
  have p1 := (b4.cell (p := ⟨w2.heap.size, 1, none⟩) z3).trans p1
  have d0 := (B4.cell (p := ⟨w.heap.size, 0, none⟩) (by show w.heap.size < _; omega)).trans c0
  have d1 := (B4.cell (p := ⟨w.heap.size, 1, none⟩) (by show w.heap.size < _; omega)).trans c1
  have d2 := (froz_below B4 ⟨w.heap.size, 0, none⟩ (by show w.heap.size < _; omega)).trans (f0 0)
  have d3 := (froz_below B4 ⟨w.heap.size, 1, none⟩ (by show w.heap.size < _; omega)).trans (f0 1)
  have HF := Lib.hid hF
  have HFL := Lib.hid hFl
  have K1 := Lib.hid h4'
  have K2 := Lib.hid hzb
  have K3 := Lib.hid hlb
  have K4 := Lib.hid hsb
  clear hF hFl o3 o4 b3 b4 r3 hc0w hbw2 B2 B3 z3 h4' hzb hlb hsb
  go_wp2
  go_loopw [10] (fun i wr => ∃ k q : Nat, k ≤ L + 9 ∧ i = .int .i64 k ∧ bs.take k = F.take k ∧ w4.drewN q = wr) (fun i _ => L + 9 - (intOf i).toNat)
  case atStart => exact ⟨0, 0, by omega, rfl, by simp, rfl⟩
  case round =>
    obtain ⟨k, q, hk, rfl, htk, rfl⟩ := hrel
    have HTK := Lib.hid htk
    clear htk
    by_cases hlt : k < L + 9
    · have dk : decide ((k : Int) < (L : Int) + 9) = true := by simp; omega
      have hkn : (k : Int) < (n : Int) := by omega
      have hkl : (k : Int) < (L : Int) + 9 := by omega
      obtain ⟨_, _, y, hA, _, hy, hcy⟩ := hbw.cell (k := k) (by omega)
      cases hA
      obtain ⟨b5, off5, z, rfl, _, hz5, hcz⟩ := rF.cell (k := k) hlt
      by_cases hyz : y = z
      · subst hyz
        have hne : ((y.toNat : Int) != (y.toNat : Int)) = false := by simp
        have hn1 : bs.take (k + 1) = F.take (k + 1) := by rw [take_succ_get bs k y hy, take_succ_get F k y hz5, HTK.out]
        have HN := Lib.hid hn1
        clear hy hz5 hn1
        go_wp2
        go_quiet (fail)
        go_wp2
        go_roundw
        case rel => exact ⟨k + 1, _, by omega, by go_num, HN.out, rfl⟩
        case measure => simp [intOf]; omega
      · have hne : ((y.toNat : Int) != (z.toNat : Int)) = true := by
          have : y.toNat ≠ z.toNat := fun e => hyz (BitVec.eq_of_toNat_eq e)
          simp; omega
        have hg := Fr.getL_sum K1.out K2.out K3.out K4.out (fun h => by
          have h2 := Fr.bytesOf_getL (b := bs) (by have := K1.out; omega) (by have := K3.out; omega) (by have := K4.out; omega) h
          rw [HX.out, ← HLL.out, ← HBD.out, ← HF.out] at h2
          have h3 : (F[k]?) = bs[k]? := by rw [h2, List.getElem?_take, if_pos hlt]
          rw [hz5, hy] at h3
          exact hyz (Option.some.inj h3).symm)
        have HG := Lib.hid hg
        clear hg hy hz5 hyz
        go_wp2
        go_quiet (fail)
        rw [World.drewN_drewN]
        obtain ⟨B5, r0, r1⟩ := BAD.out (w4.drewN (q + nq)) 6 (below_drewN B4 _)
        go_wp2
        refine bodyPost_ret (v := .tuple #[.agg #[.int .i64 0, .slice none 0 0], .int .i64 0, .int .i64 6]) ?_ rfl ?_
        · simp [results, Tryd.results37, go_sem, r0, r1]
        rw [HG.out]
        exact ⟨_, rfl, World.ownsRow_nil _ _ _ _, B5⟩
    · obtain rfl : k = L + 9 := by omega
      have dk : decide (((L + 9 : Nat) : Int) < (L : Int) + 9) = false := by simp
      have he : Fr.bytesOf (bs.getD 0 0).toNat ((bs.drop 4).take (Fr.lenL bs)) = bs.take (Fr.lenL bs + 9) := by
        rw [HX.out, ← HLL.out, ← HBD.out, ← HF.out, HTK.out, List.take_of_length_le (by rw [HFL.out]; exact Nat.le_refl _)]
      have hg := Fr.getL_ok K1.out K2.out K3.out K4.out (Fr.sum_of_bytes (by have := K1.out; omega) (by have := K4.out; omega) he)
      rw [HX.out, ← HLL.out, ← HBD.out] at hg
      have HG := Lib.hid hg
      have hlt' := o4'.lt
      have oo := own_two (own_drewN o4' q) (g := w.heap.size) (fun e => by have := (hlt' _ e).1; omega) (.int .i64 (x0''.toNat : Int)) (.slice A2 L c2)
      have kk : Below w.heap.size w (((w4.drewN q).setCell ⟨w.heap.size, 0, none⟩ (.int .i64 (x0''.toNat : Int))).setCell ⟨w.heap.size, 1, none⟩ (.slice A2 L c2)) :=
        ((next_below k0 (below_drewN B4 q)).setCell (p := ⟨w.heap.size, 0, none⟩) (Nat.le_refl _) _).setCell (p := ⟨w.heap.size, 1, none⟩) (Nat.le_refl _) _
      have r0 : (((w4.drewN q).setCell ⟨w.heap.size, 0, none⟩ (.int .i64 (x0''.toNat : Int))).setCell ⟨w.heap.size, 1, none⟩ (.slice A2 L c2)).cell? ⟨w.heap.size, 0, none⟩ = some (.int .i64 (x0''.toNat : Int)) :=
        (World.cell?_setCell_other _ _ _ _ (by simp)).trans (World.cell?_setCell_same _ _ _ d0)
      have r1 : (((w4.drewN q).setCell ⟨w.heap.size, 0, none⟩ (.int .i64 (x0''.toNat : Int))).setCell ⟨w.heap.size, 1, none⟩ (.slice A2 L c2)).cell? ⟨w.heap.size, 1, none⟩ = some (.slice A2 L c2) :=
        World.cell?_setCell_same _ _ _ ((World.cell?_setCell_other _ _ _ _ (by simp)).trans d1)
      clear hg he
      go_wp2
      refine bodyPost_ret (v := .tuple #[.agg #[.int .i64 (x0''.toNat : Int), .slice A2 L c2], .int .i64 ((L : Int) + 9), .int .i64 0]) ?_ rfl ?_
      · simp [results, Tryd.results37, go_sem, r0, r1]
      rw [HG.out]
      refine ⟨_, by rw [show ((L + 9 : Nat) : Int) = (L : Int) + 9 from by omega], ?_, kk⟩
      show World.ownsRow _ _ _ _ _ bd.length _
      rw [HBL.out]
      exact own_base oo (by omega)
end Go.Proofs.YtinenekbdcbcnaaDoor
