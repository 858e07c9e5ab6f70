/- The contracts of what the statements share on bytes: CopyBytes, SameBytes, LentBytes, KeptBytes, SpoilBytes, Pick. -/
import Derived.Test.YtinenekbdcbcnaaDoorWords
import Derived.Test.YtinenekbdcbcnaaDoorRows
import Derived.WalkSpells
import Derived.WalkLawsBesides
import Derived.Lib.Hide
namespace Go.Proofs.YtinenekbdcbcnaaDoor
open Go.RowKit

theorem infoU8 : (Tryd.prog.info? 5).map (fun i => (i.zero, i.size, i.bytes)) = some (some (.int .u8 0), 1, 1) := by kernel_rfl

set_option maxHeartbeats 400000 in
theorem copyBytes_any (P : Nat → Prop) (A : Option Addr) (n c : Nat) (bs : List (BitVec 8)) (w : World) (hb : RB w P A n bs) (hP : ∀ i, P i → i < w.heap.size) (hn : n ≤ 140737488351232) :
    Calls Tryd.prog 25 #[.slice A n c] w fun e w' => ∃ v, e = .returned v ∧ w'.ownsRow w.heap.size 5 1 v n (bytes bs) ∧ Below w.heap.size w w' := by
  go_enter Tryd.func25, Tryd.ntmps25
  go_wp2
  go_loopw [3, 4] (fun v i wr => ∃ k : Nat, k ≤ n ∧ i = .int .i64 k ∧ wr.ownsRow w.heap.size 5 1 v k (bytes (bs.take k)) ∧ Below w.heap.size w wr) (fun _ i _ => n - (intOf i).toNat)
  case atStart => exact ⟨0, by omega, rfl, World.ownsRow_nil _ _ _ _, Below.refl _ _⟩
  case round =>
    obtain ⟨k, hk, rfl, hown, hB⟩ := hrel
    by_cases hlt : k < n
    · obtain ⟨b, off, x, rfl, hPb, hx, hc⟩ := hb.cell hlt
      have hcr : wr.cell? ⟨b, off + k, none⟩ = some (.int .u8 (x.toNat : Int)) := (hB.cell (p := ⟨b, off + k, none⟩) (hP b hPb)).trans hc
      clear hc
      have HX := Lib.hid hx
      clear hx
      go_wp2_with (at_builtin; refine wpList_app1 wr #[.int .u8 (x.toNat : Int)] rfl _ _ 23 rfl w.heap.size 5 (.int .u8 0) 1 1 Tryd.underlying23 infoU8 rfl (by decide) _ k _ hown rfl rfl rfl (one1 _ rfl) (by omega) (by omega) hB.size ?_; intro g cap w1 hown1 _ hb1 _ _)
      have R : w1.ownsRow w.heap.size 5 1 (.slice (some ⟨g, 0, none⟩) (k + 1) cap) (k + 1) (bytes (bs.take (k + 1))) := by
        rw [take_succ_get bs k x HX.out, bytes_append]; exact hown1
      clear hown1
      have hB1 := hB.trans hb1
      clear hB hb1 hown hcr
      go_wp2
      go_roundw
      case rel => exact ⟨k + 1, by omega, by go_num, R, hB1⟩
      case measure => simp [intOf]; omega
    · obtain rfl : k = n := by omega
      have e : bs.take k = bs := List.take_of_length_le (Nat.le_of_eq hb.len)
      rw [e] at hown
      clear e
      go_wp2
      go_ret
      exact ⟨_, rfl, hown, hB⟩

set_option maxHeartbeats 400000 in
theorem sameBytes_any (P Q : Nat → Prop) (A : Option Addr) (n c : Nat) (xs : List (BitVec 8)) (B : Option Addr) (m d : Nat) (ys : List (BitVec 8)) (w : World) (ha : RB w P A n xs) (hb : RB w Q B m ys)
    (hn : n ≤ 9223372036854775807) :
    Calls Tryd.prog 35 #[.slice A n c, .slice B m d] w fun e w' => e = .returned (.bool (decide (xs = ys))) ∧ ∃ q, w' = w.drewN q := by
  by_cases hnm : n = m
  · subst hnm
    go_enter Tryd.func35, Tryd.ntmps35
    go_wp2
    go_loopw [5] (fun i wr => ∃ k q : Nat, k ≤ n ∧ i = .int .i64 k ∧ wr = w.drewN q ∧ xs.take k = ys.take k) (fun i _ => n - (intOf i).toNat)
    case atStart => exact ⟨0, 0, by omega, rfl, rfl, rfl⟩
    case round =>
      obtain ⟨k, q, hk, rfl, rfl, he⟩ := hrel
      have HE := Lib.hid he
      clear he
      by_cases hlt : k < n
      · obtain ⟨b1, o1, x, rfl, _, hx, hc1⟩ := ha.cell hlt
        obtain ⟨b2, o2, y, rfl, _, hy, hc2⟩ := hb.cell hlt
        by_cases hxy : x = y
        · subst hxy
          have hstep : xs.take (k + 1) = ys.take (k + 1) := by rw [take_succ_get xs k x hx, take_succ_get ys k x hy, HE.out]
          have HS := Lib.hid hstep
          clear hstep hx hy
          go_wp2
          go_quiet (fail)
          go_wp2
          go_roundw
          case rel => exact ⟨k + 1, _, by omega, by go_num, rfl, HS.out⟩
          case measure => simp [intOf]; omega
        · have hne : ((x.toNat : Int) != (y.toNat : Int)) = true := by
            rw [bne_iff_ne]; intro h; exact hxy (BitVec.eq_of_toNat_eq (by omega))
          have hfin : decide (xs = ys) = false := by
            rw [decide_eq_false_iff_not]; rintro rfl; rw [hx] at hy; injection hy with hy; exact hxy hy
          have HF := Lib.hid hfin
          clear hfin hx hy hxy
          go_wp2
          go_quiet (fail)
          go_wp2
          go_ret
          exact ⟨by rw [HF.out]; rfl, _, World.drewN_drewN _ _ _⟩
      · have hfin : decide (xs = ys) = true := by
          rw [decide_eq_true_eq]
          have h := HE.out
          rwa [List.take_of_length_le (by rw [ha.len]; omega), List.take_of_length_le (by rw [hb.len]; omega)] at h
        have HF := Lib.hid hfin
        clear hfin
        go_wp2
        go_ret
        exact ⟨by rw [HF.out]; rfl, _, rfl⟩
  · have hfin : decide (xs = ys) = false := by
      rw [decide_eq_false_iff_not]; rintro rfl; exact hnm (ha.len.symm.trans hb.len)
    have hne : ((n : Int) != (m : Int)) = true := by rw [bne_iff_ne]; omega
    have HF := Lib.hid hfin
    clear hfin
    go_enter Tryd.func35, Tryd.ntmps35
    go_wp2
    go_ret
    exact ⟨by rw [HF.out]; rfl, 0, rfl⟩

/-! ## marks -/
def markB (i : Nat) : BitVec 8 := BitVec.ofNat 8 (201 + 7 * i)
def marks (k : Nat) : List (BitVec 8) := (List.range k).map markB
theorem marks_succ (k : Nat) : marks (k + 1) = marks k ++ [markB k] := by simp [marks, List.range_succ]
theorem marks_length (k : Nat) : (marks k).length = k := by simp [marks]
theorem marks_get (n k : Nat) (h : k < n) : (marks n)[k]? = some (markB k) := by simp [marks, List.getElem?_range, h]

theorem mark_nat (k : Nat) (w : World) (hk : k ≤ 1099511627776) : Calls Tryd.prog 39 #[.int .i64 (k : Int)] w fun e w' => e = .returned (.int .u8 ((markB k).toNat : Int)) ∧ w' = w := by
  have e : (201 + 7 * (k : Int)) % 256 = ((markB k).toNat : Int) := by unfold markB; rw [BitVec.toNat_ofNat]; omega
  obtain ⟨z, hz⟩ : ∃ z : Int, z = ((markB k).toNat : Int) := ⟨_, rfl⟩
  rw [← hz] at e ⊢
  clear hz
  have HE := Lib.hid e
  clear e
  go_enter Tryd.func39, Tryd.ntmps39
  go_wp2
  go_ret
  exact ⟨congrArg (fun z => Ending.returned (.int .u8 z)) HE.out, rfl⟩
theorem mark_some (i : Int) (w : World) (h0 : 0 ≤ i) (hk : i ≤ 1099511627776) : Calls Tryd.prog 39 #[.int .i64 i] w fun e w' => ∃ z : Int, e = .returned (.int .u8 z) ∧ w' = w := by
  obtain ⟨k, rfl⟩ := Int.eq_ofNat_of_zero_le h0
  exact (mark_nat k w (by omega)).mono fun _ _ ⟨h1, h2⟩ => ⟨_, h1, h2⟩

set_option maxHeartbeats 400000 in
theorem lentBytes_any (P : Nat → Prop) (A : Option Addr) (n c : Nat) (bs : List (BitVec 8)) (w : World) (hb : RB w P A n bs) (hP : ∀ i, P i → i < w.heap.size) (hn : n ≤ 140737488350000) :
    Calls Tryd.prog 17 #[.slice A n c] w fun e w' => ∃ v, e = .returned v ∧ w'.ownsRow w.heap.size 5 1 v (n + 5) (bytes (bs ++ marks 5)) ∧ Below w.heap.size w w' := by
  go_enter Tryd.func17, Tryd.ntmps17
  go_wp2_with fail
  refine (copyBytes_any P A n c bs w hb hP (by omega)).mono ?_
  rintro e w1 ⟨v1, rfl, hown1, hB1⟩
  go_wp2_with fail
  go_loopw [3, 4] (fun v i wr => ∃ k : Nat, k ≤ 5 ∧ i = .int .i64 k ∧ wr.ownsRow w.heap.size 5 1 v (n + k) (bytes (bs ++ marks k)) ∧ Below w.heap.size w wr) (fun _ i _ => 5 - (intOf i).toNat)
  case atStart => exact ⟨0, by omega, rfl, by rw [show marks 0 = [] from rfl, List.append_nil]; exact hown1, hB1⟩
  case round =>
    clear hown1 hB1
    obtain ⟨k, hk, rfl, hown, hB⟩ := hrel
    by_cases hlt : k < 5
    · go_wp2_with fail
      refine (mark_nat k wr (by omega)).mono ?_
      rintro e w2 ⟨rfl, rfl⟩
      go_wp2_with (at_builtin; refine wpList_app1 w2 #[.int .u8 ((markB k).toNat : Int)] rfl _ _ 23 rfl w.heap.size 5 (.int .u8 0) 1 1 Tryd.underlying23 infoU8 rfl (by decide) _ (n + k) _ hown rfl rfl rfl (one1 _ rfl) (by omega) (by omega) hB.size ?_; intro g cap w3 hown3 _ hb3 _ _)
      have R : w3.ownsRow w.heap.size 5 1 (.slice (some ⟨g, 0, none⟩) (n + k + 1) cap) (n + (k + 1)) (bytes (bs ++ marks (k + 1))) := by
        rw [marks_succ, ← List.append_assoc, bytes_append]; exact hown3
      clear hown3
      have hB3 := hB.trans hb3
      clear hB hb3 hown
      go_wp2
      go_roundw
      case rel => exact ⟨k + 1, by omega, by go_num, R, hB3⟩
      case measure => simp [intOf]; omega
    · obtain rfl : k = 5 := by omega
      go_wp2
      go_ret
      exact ⟨_, rfl, hown, hB⟩

set_option maxHeartbeats 400000 in
theorem keptBytes_yes (P Q : Nat → Prop) (A : Option Addr) (n c : Nat) (bs : List (BitVec 8)) (B : Option Addr) (d : Nat) (w : World) (ha : RB w P A (n + 5) (bs ++ marks 5)) (hb : RB w Q B n bs)
    (hn : n ≤ 140737488350000) (hc : n + 5 ≤ c) (hc2 : c ≤ 9223372036854775807) :
    Calls Tryd.prog 22 #[.slice A (n + 5 : Nat) c, .slice B n d] w fun e w' => e = .returned (.bool true) ∧ ∃ q, w' = w.drewN q := by
  have ha' : RB w P A n bs := by
    have := ha.take (k := n) (by omega)
    rwa [List.take_left' hb.len] at this
  go_enter Tryd.func22, Tryd.ntmps22
  go_wp2_with fail
  refine (sameBytes_any P Q A n c bs B n d bs w ha' hb (by omega)).mono ?_
  rintro e w1 ⟨rfl, q1, rfl⟩
  go_wp2_with fail
  go_loopw [5] (fun i wr => ∃ k q : Nat, k ≤ 5 ∧ i = .int .i64 k ∧ wr = w.drewN q) (fun i _ => 5 - (intOf i).toNat)
  case atStart => exact ⟨0, q1, by omega, rfl, rfl⟩
  case round =>
    obtain ⟨k, q, hk, rfl, rfl⟩ := hrel
    by_cases hlt : k < 5
    · obtain ⟨b1, o1, x, rfl, _, hx, hc1⟩ := ha.cell (k := n + k) (by omega)
      have hxm : x = markB k := by
        rw [List.getElem?_append_right (by rw [hb.len]; omega), hb.len, show n + k - n = k from by omega, marks_get 5 k hlt] at hx
        exact (Option.some.inj hx).symm
      rw [hxm] at hc1
      clear hx hxm
      have hw0 : (0 : Int) ≤ (n : Int) + (k : Int) := by omega
      have hw3 : (n : Int) + (k : Int) < (n : Int) + 5 := by omega
      have hw1 : IntKind.i64.wrap ((n : Int) + (k : Int)) = (n : Int) + (k : Int) := IntWalk.i64_in _ (by omega)
      have hw2 : ((n : Int) + (k : Int)).toNat = n + k := by omega
      go_wp2
      go_quiet ((go_at_call 39; exact quiet_add_same (mark_nat k _ (by omega))))
      clear hw1 hw2
      go_wp2
      go_roundw
      case rel => exact ⟨k + 1, _, by omega, by go_num, rfl⟩
      case measure => simp [intOf]; omega
    · go_wp2
      go_ret
      exact ⟨rfl, _, rfl⟩

/-! ## writing a row of the call's own over -/
theorem set_heap {w : World} {g : Nat} {t : TypeId} {cs : Array Value} {fr : Nat × Nat} (h : w.heap[g]? = some (.cells cs t fr)) (i : Nat) (u : Value) : (w.setCell ⟨g, i, none⟩ u).heap[g]? = some (.cells (cs.setIfInBounds i u) t fr) := by
  simp [World.setCell, Array.getElem?_modify, h]
theorem set_grown {a w : World} {g : Nat} (h : a.grownBy w (some g)) (i : Nat) (u : Value) : a.grownBy (w.setCell ⟨g, i, none⟩ u) (some g) :=
  ⟨h.os, h.tape, h.output, by simpa [World.setCell] using h.size, fun k hk hne => (Below.heap_setCell w ⟨g, i, none⟩ u k (fun e => hne (by rw [e]))).trans (h.block k hk hne)⟩

set_option maxHeartbeats 400000 in
theorem spoilBytes_row (g n c : Nat) (cur : Array Value) (w : World) (hg : w.heap[g]? = some (.cells cur 5 (0, 0))) (hs : cur.size = c) (hnc : n ≤ c) (hn : n ≤ 1099511627000) :
    Calls Tryd.prog 36 #[.slice (some ⟨g, 0, none⟩) n c] w fun e w' => (∃ v, e = .returned v) ∧ w.grownBy w' (some g) := by
  go_enter Tryd.func36, Tryd.ntmps36
  go_wp2_with fail
  go_loopw [2] (fun i wr => ∃ (k : Nat) (cu : Array Value), k ≤ n ∧ i = .int .i64 k ∧ wr.heap[g]? = some (.cells cu 5 (0, 0)) ∧ cu.size = c ∧ w.grownBy wr (some g)) (fun i _ => n - (intOf i).toNat)
  case atStart => exact ⟨0, cur, by omega, rfl, hg, hs, World.grownBy.refl w _⟩
  case round =>
    obtain ⟨k, cu, hk, rfl, hgr, hcs, hgw⟩ := hrel
    by_cases hlt : k < n
    · have hcell : wr.cell? ⟨g, k, none⟩ = some (cu[k]'(by omega)) := by rw [cell_of_row wr g k cu 5 (0, 0) hgr]; exact Array.getElem?_eq_getElem (by omega)
      have hfr : wr.frozen? ⟨g, k, none⟩ = false := by simp [World.frozen?, hgr]
      generalize cu[k]'(by omega) = old at hcell
      have HG := Lib.hid hgr
      have HC := Lib.hid hcs
      clear hgr hcs
      go_wp2_with fail
      refine (mark_some (k + 7) wr (by omega) (by omega)).mono ?_
      rintro e w2 ⟨z, rfl, rfl⟩
      go_wp2
      go_roundw
      case rel => exact ⟨k + 1, _, by omega, by go_num, set_heap HG.out k _, by rw [Array.size_setIfInBounds]; exact HC.out, set_grown hgw k _⟩
      case measure => simp [intOf]; omega
    · go_wp2
      go_end0
      exact ⟨⟨_, rfl⟩, hgw⟩
theorem spoilBytes_none (A : Option Addr) (c : Nat) (w : World) :
    Calls Tryd.prog 36 #[.slice A 0 c] w fun e w' => (∃ v, e = .returned v) ∧ w' = w := by
  go_enter Tryd.func36, Tryd.ntmps36
  go_wp2
  refine wp_loop_rounds 1 ?_
  rw [rounds_succ]
  go_wp2
  go_end0
  exact ⟨⟨_, rfl⟩, rfl⟩
theorem spoilBytes_own (base : Nat) (v : Value) (n : Nat) (xs : List Value) (w : World) (h : w.ownsRow base 5 1 v n xs) (hn : n ≤ 1099511627000) :
    Calls Tryd.prog 36 #[v] w fun e w' => (∃ r, e = .returned r) ∧ w.grownBy w' v.ownBlock := by
  rcases h.2 with ⟨rfl, rfl⟩ | ⟨g, cap, cur, rfl, _, hg, hnc, _, hs, _⟩
  · exact (spoilBytes_none none 0 w).mono fun _ _ ⟨h1, h2⟩ => ⟨h1, by rw [h2]; exact World.grownBy.refl w _⟩
  · exact spoilBytes_row g n cap cur w hg (by simpa using hs) hnc hn

/-! ## Pick -/
theorem pick_pos (k n : Int) (w : World) (hn : 1 ≤ n) (hn2 : n ≤ 9223372036854775807) (hk1 : -9223372036854775808 ≤ k) (hk2 : k ≤ 9223372036854775807) :
    Calls Tryd.prog 23 #[.int .i64 k, .int .i64 n] w fun e w' => e = .returned (.int .i64 (k % n)) ∧ w = w' := by
  by_cases h0 : 0 ≤ k
  · have hm1 := Int.emod_nonneg k (show n ≠ 0 by omega)
    have hm2 := Int.emod_lt_of_pos k (show 0 < n by omega)
    go_enter Tryd.func23, Tryd.ntmps23
    go_wp2
    go_ret
    exact ⟨rfl, rfl⟩
  · have hr : k.tmod n = - ((-k) % n) := by
      have : k = - (-k) := by omega
      rw [this, Int.neg_tmod, Int.neg_neg, Int.tmod_eq_emod_of_nonneg (by omega)]
    have hm1 := Int.emod_nonneg (-k) (show n ≠ 0 by omega)
    have hm2 := Int.emod_lt_of_pos (-k) (show 0 < n by omega)
    by_cases hz : (-k) % n = 0
    · have e : k % n = 0 := by
        have := Int.dvd_of_emod_eq_zero hz
        exact Int.emod_eq_zero_of_dvd (Int.dvd_neg.1 this)
      have e0 : k.tmod n = 0 := by rw [hr, hz]; rfl
      have HE := Lib.hid e
      clear e hr hz hm1 hm2
      go_enter Tryd.func23, Tryd.ntmps23
      go_wp2
      go_ret
      exact ⟨by rw [HE.out]; rfl, rfl⟩
    · obtain ⟨r, hR⟩ : ∃ r, r = k.tmod n := ⟨_, rfl⟩
      have e : k % n = r + n := by
        rw [hR, hr]
        have h2 := Int.emod_add_mul_ediv (-k) n
        have h4 : (n - (-k) % n) % n = n - (-k) % n := Int.emod_eq_of_lt (by omega) (by omega)
        have h3 : k = (n - (-k) % n) + n * (-(-k / n) - 1) := by rw [Int.mul_sub, Int.mul_neg, Int.mul_one]; omega
        have h1 : k % n = n - (-k) % n := by
          have h5 := congrArg (· % n) h3
          simp only [Int.add_mul_emod_self_left] at h5
          rw [h5, h4]
        omega
      have hr1 : r < 0 := by omega
      have hr2 : -n < r := by omega
      have e0 : k.tmod n = r := hR.symm
      have HE := Lib.hid e
      clear e hr hz hm1 hm2 hR
      go_enter Tryd.func23, Tryd.ntmps23
      go_wp2
      go_ret
      exact ⟨by rw [HE.out]; rfl, rfl⟩
theorem pick_low (k n : Int) (w : World) (hn : n < 1) : Calls Tryd.prog 23 #[.int .i64 k, .int .i64 n] w fun e w' => e = .returned (.int .i64 0) ∧ w = w' := by
  go_enter Tryd.func23, Tryd.ntmps23
  go_wp2
  go_ret
  exact ⟨rfl, rfl⟩
end Go.Proofs.YtinenekbdcbcnaaDoor
