/- The walk of the statement CrcLine. -/
import Derived.Test.YtinenekbdcbcnaaDoorCrcCuts
namespace Go.Proofs.YtinenekbdcbcnaaDoor
open Go.RowKit

theorem mixL_snoc (b m : List (BitVec 8)) (k : Nat) (x : BitVec 8) (h : b[k]? = some x) :
    (CrcM.mixL b m).take (k + 1) = (CrcM.mixL b m).take k ++ [if k < m.length then x ^^^ m.getD k 0 else x] := by
  have hk : k < b.length := (List.getElem?_eq_some_iff.1 h).1
  refine take_succ_get _ k _ ?_
  rw [CrcM.mixL_get b m k hk, List.getD_eq_getElem?_getD, h]; rfl

set_option maxHeartbeats 1000000 in
theorem mix_any (P Q : Nat → Prop) (A : Option Addr) (n c : Nat) (xs : List (BitVec 8)) (B : Option Addr) (m d : Nat) (ys : List (BitVec 8)) (w : World) (ha : RB w P A n xs) (hb : RB w Q B m ys)
    (hP : ∀ i, P i → i < w.heap.size) (hQ : ∀ i, Q i → i < w.heap.size) (hn : n ≤ 140737488350000) :
    Calls Tryd.prog 24 #[.slice A n c, .slice B m d] w fun e w' => ∃ v, e = .returned v ∧ w'.ownsRow w.heap.size 5 1 v n (bytes (CrcM.mixL xs ys)) ∧ Below w.heap.size w w' := by
  go_enter Tryd.func24, Tryd.ntmps24
  go_wp2
  go_loopw [5, 6] (fun v i wr => ∃ k : Nat, k ≤ n ∧ i = .int .i64 k ∧ wr.ownsRow w.heap.size 5 1 v k (bytes ((CrcM.mixL xs ys).take k)) ∧ Below w.heap.size w wr) (fun _ i _ => n - (intOf i).toNat)
  case atStart => exact ⟨0, by omega, rfl, World.ownsRow_nil _ _ _ _, Below.refl _ _⟩
  case round =>
    obtain ⟨k, hk, rfl, hown, hB⟩ := hrel
    by_cases hlt : k < n
    · obtain ⟨b1, o1, x, rfl, hP1, hx, hc1⟩ := ha.cell hlt
      have hr1 : wr.cell? ⟨b1, o1 + k, none⟩ = some (.int .u8 (x.toNat : Int)) := (hB.cell (p := ⟨b1, o1 + k, none⟩) (hP b1 hP1)).trans hc1
      have hs := mixL_snoc xs ys k x hx
      clear hc1 hx
      by_cases hkm : k < m
      · obtain ⟨b2, o2, y, rfl, hQ1, hy, hc2⟩ := hb.cell hkm
        have hr2 : wr.cell? ⟨b2, o2 + k, none⟩ = some (.int .u8 (y.toNat : Int)) := (hB.cell (p := ⟨b2, o2 + k, none⟩) (hQ b2 hQ1)).trans hc2
        rw [if_pos (by rw [hb.len]; exact hkm), List.getD_eq_getElem?_getD, hy] at hs
        have hs' : (CrcM.mixL xs ys).take (k + 1) = (CrcM.mixL xs ys).take k ++ [x ^^^ y] := hs
        obtain ⟨z, hz⟩ : ∃ z, z = x ^^^ y := ⟨_, rfl⟩
        have hX : bits BinOp.xor IntKind.u8 (x.toNat : Int) (y.toNat : Int) = (z.toNat : Int) := by rw [hz]; exact xor8 x y
        rw [← hz] at hs'
        have HS := Lib.hid hs'
        clear hs hs' hc2 hy hz
        go_wp2_with (at_builtin; refine wpList_app1 wr #[.int .u8 (z.toNat : Int)] rfl _ _ 23 rfl w.heap.size 5 (.int .u8 0) 1 1 Tryd.underlying23 infoU8 rfl (by decide) _ k _ hown rfl rfl rfl (one1 _ rfl) (by omega) (by omega) hB.size ?_; intro g cap w1 hown1 _ hb1 _ _)
        have R : w1.ownsRow w.heap.size 5 1 (.slice (some ⟨g, 0, none⟩) (k + 1) cap) (k + 1) (bytes ((CrcM.mixL xs ys).take (k + 1))) := by
          rw [HS.out, bytes_append]; exact hown1
        clear hown1
        have hB1 := hB.trans hb1
        clear hB hb1 hown hr1 hr2
        go_wp2
        go_roundw
        case rel => exact ⟨k + 1, by omega, by go_num, R, hB1⟩
        case measure => simp [intOf]; omega
      · rw [if_neg (by rw [hb.len]; exact hkm)] at hs
        have HS := Lib.hid hs
        clear hs
        go_wp2_with (at_builtin; refine wpList_app1 wr #[.int .u8 (x.toNat : Int)] rfl _ _ 23 rfl w.heap.size 5 (.int .u8 0) 1 1 Tryd.underlying23 infoU8 rfl (by decide) _ k _ hown rfl rfl rfl (one1 _ rfl) (by omega) (by omega) hB.size ?_; intro g cap w1 hown1 _ hb1 _ _)
        have R : w1.ownsRow w.heap.size 5 1 (.slice (some ⟨g, 0, none⟩) (k + 1) cap) (k + 1) (bytes ((CrcM.mixL xs ys).take (k + 1))) := by
          rw [HS.out, bytes_append]; exact hown1
        clear hown1
        have hB1 := hB.trans hb1
        clear hB hb1 hown hr1
        go_wp2
        go_roundw
        case rel => exact ⟨k + 1, by omega, by go_num, R, hB1⟩
        case measure => simp [intOf]; omega
    · obtain rfl : k = n := by omega
      have e : (CrcM.mixL xs ys).take k = CrcM.mixL xs ys := List.take_of_length_le (by rw [CrcM.mixL_length, ha.len]; exact Nat.le_refl _)
      rw [e] at hown
      clear e
      go_wp2
      go_ret
      exact ⟨_, rfl, hown, hB⟩

/-- A mixed row, as a slice that reads. -/
theorem mix_b (P Q : Nat → Prop) (A : Option Addr) (n c : Nat) (xs : List (BitVec 8)) (B : Option Addr) (m d : Nat) (ys : List (BitVec 8)) (w : World) (ha : RB w P A n xs) (hb : RB w Q B m ys)
    (hP : ∀ i, P i → i < w.heap.size) (hQ : ∀ i, Q i → i < w.heap.size) (hn : n ≤ 140737488350000) :
    Calls Tryd.prog 24 #[.slice A n c, .slice B m d] w fun e w' => ∃ A' c', e = .returned (.slice A' n c') ∧ n ≤ c' ∧ c' ≤ 9223372036854775807 ∧ RB w' (· < w'.heap.size) A' n (CrcM.mixL xs ys) ∧ Below w.heap.size w w' :=
  (mix_any P Q A n c xs B m d ys w ha hb hP hQ hn).mono fun _ w' ⟨v, he, hown, hB⟩ => by
    obtain ⟨A', c', rfl, h1, h2, _⟩ := own_form hown
    exact ⟨A', c', he, h1, h2, (own_reads hown).more fun _ h => h.2, hB⟩

theorem zeros_eq (n : Nat) : (madeCells (Value.int .u8 0).cells (n * 1)).toList = bytes (List.replicate n 0#8) := by
  show (madeCells #[Value.int .u8 0] (n * 1)).toList = _
  rw [toList_madeCells_one, Nat.mul_one, bytes, List.map_replicate]; rfl

theorem line_facts {s d e f u v y : BitVec 32} {b m l : List (BitVec 8)} (hd : d = CrcM.more s b) (he : e = CrcM.more s (CrcM.mixL b m)) (hf : f = CrcM.more s (CrcM.mixL b l)) (hu : u = CrcM.more s (CrcM.mixL (CrcM.mixL b m) l))
    (hv : v = CrcM.more 0#32 (List.replicate b.length 0#8)) (hy : y = CrcM.more 0#32 (CrcM.mixL (List.replicate b.length 0#8) m)) :
    (d ^^^ e) ^^^ (d ^^^ f) = d ^^^ u ∧ d ^^^ e = v ^^^ y := by
  subst hd he hf hu hv hy
  exact ⟨CrcM.line_law s b m l, CrcM.line_zero s b m⟩

set_option maxHeartbeats 1000000 in
theorem line_walk (s : BitVec 32) (A1 : Option Addr) (n1 c1 : Nat) (b : List (BitVec 8)) (A2 : Option Addr) (n2 c2 : Nat) (m : List (BitVec 8)) (A3 : Option Addr) (n3 c3 : Nat) (l : List (BitVec 8)) (w : World) (ht : Tabs w)
    (hb : RB w (· < w.heap.size) A1 n1 b) (hl1 : n1 ≤ c1) (hm1 : c1 ≤ 9223372036854775807) (hm : RB w (· < w.heap.size) A2 n2 m) (hl2 : n2 ≤ c2) (hm2 : c2 ≤ 9223372036854775807)
    (hl : RB w (· < w.heap.size) A3 n3 l) (hl3 : n3 ≤ c3) (hm3 : c3 ≤ 9223372036854775807) :
    Calls Tryd.prog 5 #[.int .u32 (s.toNat : Int), .slice A1 n1 c1, .slice A2 n2 c2, .slice A3 n3 c3] w fun e w' => e = .returned (.bool true) ∧ Below w.heap.size w w' := by
  by_cases hbig : 4096 < n1
  · go_enter Tryd.func5, Tryd.ntmps5
    go_wp2_with fail
    refine (known_any w ht).mono ?_
    rintro e w1 ⟨rfl, hB⟩
    go_wp2
    go_ret
    exact ⟨rfl, hB⟩
  · obtain ⟨i0, hi, hz0, hz1, hz2⟩ := info_parts infoU8
    have hib : i0.bytes * n1 ≤ 281474976710656 := by rw [hz2]; omega
    go_enter Tryd.func5, Tryd.ntmps5
    go_wp2_with (at_make; refine wpList_make_full _ rfl _ _ 23 rfl w.heap.size 5 i0 (.int .u8 0) 1 Tryd.underlying23 hi hz0 hz1 .i64 .i64 _ _ n1 rfl rfl rfl rfl hib (by unfold maxLen; omega) (Nat.le_refl _) ?_; intro w1 hown1 hg1)
    clear hib hi hz0 hz1 hz2
    have k1 : Below w.heap.size w w1 := (Below.refl _ _).grown hg1 (Nat.le_refl _) (by simp)
    have hZ : RB w1 (· < w1.heap.size) (some ⟨w.heap.size, 0, none⟩) n1 (List.replicate n1 0#8) := by
      rw [zeros_eq] at hown1
      exact (own_reads hown1).more fun _ h => h.2
    clear hown1 hg1
    go_wp2_with fail
    refine (mix_b _ _ A1 n1 c1 b A2 n2 c2 m w1 (hb.below k1) (hm.below k1) (fun _ h => Nat.lt_of_lt_of_le h k1.size) (fun _ h => Nat.lt_of_lt_of_le h k1.size) (by omega)).mono ?_
    rintro e w2 ⟨X, cx, rfl, hx1, hx2, hX, hB⟩
    have k2 := next_below k1 hB
    have z2 : Below w1.heap.size w1 w2 := hB
    clear hB k1
    go_wp2_with fail
    refine (mix_b _ _ A1 n1 c1 b A3 n3 c3 l w2 (hb.below k2) (hl.below k2) (fun _ h => Nat.lt_of_lt_of_le h k2.size) (fun _ h => Nat.lt_of_lt_of_le h k2.size) (by omega)).mono ?_
    rintro e w3 ⟨Y, cy, rfl, hy1, hy2, hY, hB⟩
    have k3 := next_below k2 hB
    have z3 := next_below z2 hB
    have x3 : Below w2.heap.size w2 w3 := hB
    clear hB k2 z2
    go_wp2_with fail
    refine (mix_b _ _ X n1 cx (CrcM.mixL b m) A3 n3 c3 l w3 (hX.below x3) (hl.below k3) (fun _ h => Nat.lt_of_lt_of_le h x3.size) (fun _ h => Nat.lt_of_lt_of_le h k3.size) (by omega)).mono ?_
    rintro e w4 ⟨Z, cz, rfl, hzz1, hzz2, hZZ, hB⟩
    have k4 := next_below k3 hB
    have z4 := next_below z3 hB
    have x4 := next_below x3 hB
    have y4 : Below w3.heap.size w3 w4 := hB
    clear hB k3 z3 x3
    go_wp2_with fail
    refine (more_v s _ A1 n1 c1 b w4 (hb.below k4) (ht.below k4 ht.size) (by omega)).mono ?_
    rintro e w5 ⟨d, rfl, hd, q1, rfl⟩
    have HD := Lib.hid hd
    clear hd
    go_wp2_with fail
    refine (more_v s _ X n1 cx _ _ ((hX.below x4).keep (w' := w4.drewN _) (fun _ _ => rfl)) ((ht.below k4 ht.size).drewN _) (by omega)).mono ?_
    rintro e w6 ⟨e1, rfl, he, q2, rfl⟩
    have HE := Lib.hid he
    clear he
    go_wp2_with fail
    refine (more_is2 s d _ A1 n1 c1 b _ ((hb.below k4).keep (w' := w4.drewN _) (fun _ _ => rfl)) ((ht.below k4 ht.size).drewN _) (by omega) HD.out).mono ?_
    rintro e w7 ⟨rfl, q3, rfl⟩
    go_wp2_with fail
    refine (more_v s _ Y n1 cy _ _ ((hY.below y4).keep (w' := w4.drewN _) (fun _ _ => rfl)) ((ht.below k4 ht.size).drewN _) (by omega)).mono ?_
    rintro e w8 ⟨f, rfl, hf, q4, rfl⟩
    have HF := Lib.hid hf
    clear hf
    go_wp2_with fail
    refine (more_is2 s d _ A1 n1 c1 b _ ((hb.below k4).keep (w' := w4.drewN _) (fun _ _ => rfl)) ((ht.below k4 ht.size).drewN _) (by omega) HD.out).mono ?_
    rintro e w9 ⟨rfl, q5, rfl⟩
    go_wp2_with fail
    refine (more_v s _ Z n1 cz _ _ (hZZ.keep (w' := w4.drewN _) (fun _ _ => rfl)) ((ht.below k4 ht.size).drewN _) (by omega)).mono ?_
    rintro e w10 ⟨u, rfl, hu, q6, rfl⟩
    have HU := Lib.hid hu
    clear hu
    obtain ⟨v, hv⟩ : ∃ v, v = CrcM.more 0#32 (List.replicate b.length 0#8) := ⟨_, rfl⟩
    obtain ⟨y, hy⟩ : ∃ y, y = CrcM.more 0#32 (CrcM.mixL (List.replicate b.length 0#8) m) := ⟨_, rfl⟩
    obtain ⟨f1, f2⟩ := line_facts HD.out HE.out HF.out HU.out hv hy
    obtain ⟨α, hα⟩ : ∃ α, α = d ^^^ e1 := ⟨_, rfl⟩
    obtain ⟨β, hβ⟩ : ∃ β, β = d ^^^ f := ⟨_, rfl⟩
    obtain ⟨γ, hγ⟩ : ∃ γ, γ = d ^^^ u := ⟨_, rfl⟩
    have g1 : bits BinOp.xor IntKind.u32 (d.toNat : Int) (e1.toNat : Int) = (α.toNat : Int) := by rw [xor32, hα]
    have g2 : bits BinOp.xor IntKind.u32 (d.toNat : Int) (f.toNat : Int) = (β.toNat : Int) := by rw [xor32, hβ]
    have g3 : bits BinOp.xor IntKind.u32 (d.toNat : Int) (u.toNat : Int) = (γ.toNat : Int) := by rw [xor32, hγ]
    have g4 : bits BinOp.xor IntKind.u32 (α.toNat : Int) (β.toNat : Int) = (γ.toNat : Int) := by rw [xor32, hα, hβ, hγ, f1]
    have g5 : bits BinOp.xor IntKind.u32 (v.toNat : Int) (y.toNat : Int) = (α.toNat : Int) := by rw [xor32, hα, f2]
    have HV := Lib.hid hv
    have HY := Lib.hid hy
    clear hv hy f1 f2 hα hβ hγ
    have hlen := hb.len
    have HL := Lib.hid hlen
    clear hlen
    go_wp2_with fail
    refine (sum_is2 v _ _ n1 _ _ _ ((hZ.below z4).keep (w' := w4.drewN _) (fun _ _ => rfl)) ((ht.below k4 ht.size).drewN _) (by omega) (by rw [HV.out, HL.out])).mono ?_
    rintro e w11 ⟨rfl, q7, rfl⟩
    obtain ⟨wq, hwq⟩ : ∃ wq, wq = w4.drewN (q1 + q2 + q3 + q4 + q5 + q6 + q7) := ⟨_, rfl⟩
    have kq : Below w.heap.size w wq := by rw [hwq]; exact below_drewN k4 _
    have zq : Below w1.heap.size w1 wq := by rw [hwq]; exact below_drewN z4 _
    go_wp2_with fail
    rw [← hwq]
    clear hwq
    refine (mix_b _ _ _ n1 _ (List.replicate n1 0#8) A2 n2 c2 m wq (hZ.below zq) (hm.below kq) (fun _ h => Nat.lt_of_lt_of_le h zq.size) (fun _ h => Nat.lt_of_lt_of_le h kq.size) (by omega)).mono ?_
    rintro e w12 ⟨T, cT, rfl, ht1, ht2, hT, hB⟩
    have k12 := next_below kq hB
    clear hB
    go_wp2_with fail
    refine (sum_is2 y _ T n1 cT _ w12 hT (ht.below k12 ht.size) (by omega) (by rw [HY.out, HL.out])).mono ?_
    rintro e w13 ⟨rfl, q8, rfl⟩
    go_wp2_with fail
    refine (known_any _ ((ht.below k12 ht.size).drewN q8)).mono ?_
    rintro e w14 ⟨rfl, hB⟩
    have k14 : Below w.heap.size w w14 := next_below (below_drewN k12 q8) hB
    clear hB
    go_wp2
    go_ret
    exact ⟨rfl, k14⟩
end Go.Proofs.YtinenekbdcbcnaaDoor
