/- The walk of the statement FrameGets. -/
import Derived.Test.YtinenekbdcbcnaaDoorFrScan2
namespace Go.Proofs.YtinenekbdcbcnaaDoor
open Go.RowKit

theorem opt_apart {a b : Option Nat} (h : a = none ∨ a ≠ b) : b = none ∨ b ≠ a := by
  rcases a with _ | x
  · rcases b with _ | y
    · exact .inl rfl
    · exact .inr fun e => by cases e
  · rcases h with h | h
    · cases h
    · exact .inr fun e => h e.symm

set_option maxHeartbeats 1600000 in
set_option maxRecDepth 100000 in
theorem gets_walk (A : Option Addr) (n c : Nat) (bs : List (BitVec 8)) (w : World) (ht : Tabs w) (hb : RB w (· < w.heap.size) A n bs) (hc : n ≤ c) (hc2 : c ≤ 9223372036854775807) :
    Calls Tryd.prog 15 #[.slice A n c] w fun e w' => e = .returned (.bool true) ∧ Below w.heap.size w w' := by
  by_cases hbig : 8192 < n
  · have hbg : decide (8192 < (n : Int)) = true := by simp; omega
    go_enter Tryd.func15, Tryd.ntmps15
    go_wp2_with fail
    refine (shown_any w ht).mono ?_
    rintro e w2 ⟨rfl, hB⟩
    go_wp2
    go_ret
    exact ⟨rfl, hB⟩
  have hbg : decide (8192 < (n : Int)) = false := by simp; omega
  go_enter Tryd.func15, Tryd.ntmps15
  go_wp2_with fail
  refine (copyBytes_any _ A n c bs w hb (fun _ h => h) (by omega)).mono ?_
  rintro e w1 ⟨v1, rfl, o1, k1⟩
  obtain ⟨I, cI, rfl, hcI, hcI2, _⟩ := own_form o1
  have rI : RB w1 (· < w1.heap.size) I n bs := (own_reads o1).more fun _ h => h.2
  have rb1 := (hb.below k1).more (Q := (· < w1.heap.size)) fun i hi => Nat.lt_of_lt_of_le hi k1.size
  clear o1
  go_wp2_with fail
  refine (get_any I n cI bs w1 (ht.below k1 ht.size) rI (by omega) hcI hcI2).mono ?_
  rintro e w2 ⟨v2, rfl, o2, b2⟩
  obtain ⟨A2, c2, rfl, _⟩ := own_form o2
  obtain ⟨kd, hkd⟩ : ∃ kd, kd = (Fr.getL bs).1 := ⟨_, rfl⟩
  obtain ⟨bd, hbd⟩ : ∃ bd, bd = (Fr.getL bs).2.1 := ⟨_, rfl⟩
  obtain ⟨gm, hgm⟩ : ∃ gm, gm = (Fr.getL bs).2.2.1 := ⟨_, rfl⟩
  obtain ⟨ge, hge⟩ : ∃ ge, ge = (Fr.getL bs).2.2.2 := ⟨_, rfl⟩
  obtain ⟨nb, hnb⟩ : ∃ nb, nb = bd.length := ⟨_, rfl⟩
  have hbs : nb ≤ 65536 := by
    rw [hnb, hbd]
    rcases Fr.getL_cases bs with ⟨_, hg⟩ | ⟨_, _, _, hL, _, _, hg⟩
    · rw [hg]; exact Nat.zero_le _
    · rw [hg]; simp only [List.length_take]; omega
  rw [← hbd, ← hnb] at o2
  rw [← hkd, ← hbd, ← hgm, ← hge, ← hnb]
  obtain ⟨w3, hw3⟩ : ∃ W, W = w2.alloc (.cells #[.int .i64 (kd : Int), .slice A2 nb c2] 48) := ⟨_, rfl⟩
  have b3 : Below w2.heap.size w2 w3 := by rw [hw3]; exact (Below.refl _ _).alloc (Nat.le_refl _) _
  have z3 : w2.heap.size < w3.heap.size := by rw [hw3]; simp
  have p0 : w3.cell? ⟨w2.heap.size, 0, none⟩ = some (.int .i64 (kd : Int)) := by rw [hw3, World.cell?_alloc_new]; rfl
  have p1 : w3.cell? ⟨w2.heap.size, 1, none⟩ = some (.slice A2 nb c2) := by rw [hw3, World.cell?_alloc_new]; rfl
  have o3 := own_below o2 b3
  have j3 := next_below b2 b3
  have k3 := next_below k1 j3
  have rb3 := (hb.below k3).more (Q := (· < w3.heap.size)) fun i hi => Nat.lt_of_lt_of_le hi k3.size
  have HK := Lib.hid hkd
  have HBD := Lib.hid hbd
  have HGM := Lib.hid hgm
  have HGE := Lib.hid hge
  have HNB := Lib.hid hnb
  have HW3 := Lib.hid hw3
  clear hkd hbd hgm hge hnb hw3 o2 b2 b3
  go_wp2_with fail
  rw [← HW3.out]
  refine (refGet_any A n c bs w3 rb3 (by omega) hc hc2).mono ?_
  rintro e w4 ⟨v4, rfl, o4, b4⟩
  rw [← HBD.out, ← HNB.out] at o4
  rw [← HK.out, ← HGM.out, ← HGE.out]
  obtain ⟨A4, c4, rfl, _⟩ := own_form o4
  obtain ⟨w5, hw5⟩ : ∃ W, W = w4.alloc (.cells #[.int .i64 (kd : Int), .slice A4 nb c4] 48) := ⟨_, rfl⟩
  have b5 : Below w4.heap.size w4 w5 := by rw [hw5]; exact (Below.refl _ _).alloc (Nat.le_refl _) _
  have z5 : w4.heap.size < w5.heap.size := by rw [hw5]; simp
  have s0 : w5.cell? ⟨w4.heap.size, 0, none⟩ = some (.int .i64 (kd : Int)) := by rw [hw5, World.cell?_alloc_new]; rfl
  have s1 : w5.cell? ⟨w4.heap.size, 1, none⟩ = some (.slice A4 nb c4) := by rw [hw5, World.cell?_alloc_new]; rfl
  have r4 : RB w4 (· < w4.heap.size) A4 nb bd := (own_reads o4).more fun _ h => h.2
  have r5 := (r4.below b5).more (Q := (· < w5.heap.size)) fun i hi => Nat.lt_of_lt_of_le hi b5.size
  have i5 := next_below b4 b5
  have o5 := own_below o3 i5
  have j5 := next_below j3 i5
  have k5 := next_below k3 i5
  have p0 := (i5.cell (p := ⟨w2.heap.size, 0, none⟩) z3).trans p0
  have p1 := (i5.cell (p := ⟨w2.heap.size, 1, none⟩) z3).trans p1
  have z25 : w2.heap.size < w5.heap.size := Nat.lt_of_lt_of_le z3 i5.size
  have rI5 := (rI.below j5).more (Q := (· < w5.heap.size)) fun i hi => Nat.lt_of_lt_of_le hi j5.size
  have hA2lt := o5.lt
  have zA := j5.size
  have HW5 := Lib.hid hw5
  clear hw5 o3 o4 b4 b5 r4 rb3 i5 j3 k3
  go_wp2_with fail
  rw [← HW5.out]
  refine (scan_any I n cI bs w5 (ht.below k5 ht.size) rI5 (by omega) hcI hcI2).mono ?_
  rintro e w6 ⟨v6, fs, at_, rfl, o6, kp6, st6, er6, hat, b6⟩
  obtain ⟨M, hM⟩ : ∃ M, M = fs.length := ⟨_, rfl⟩
  rw [← hM] at o6
  obtain ⟨X, cX, rfl, _, _, _⟩ := own_form o6
  have k6 := next_below k5 b6
  have j6 := next_below j5 b6
  have o5 := own_below o5 b6
  have p0 := (b6.cell (p := ⟨w2.heap.size, 0, none⟩) z25).trans p0
  have p1 := (b6.cell (p := ⟨w2.heap.size, 1, none⟩) z25).trans p1
  have s0 := (b6.cell (p := ⟨w4.heap.size, 0, none⟩) z5).trans s0
  have s1 := (b6.cell (p := ⟨w4.heap.size, 1, none⟩) z5).trans s1
  have z26 : w2.heap.size < w6.heap.size := Nat.lt_of_lt_of_le z25 b6.size
  have z46 : w4.heap.size < w6.heap.size := Nat.lt_of_lt_of_le z5 b6.size
  have r6 := (r5.below b6).more (Q := (· < w6.heap.size)) fun i hi => Nat.lt_of_lt_of_le hi b6.size
  have rb6 := (hb.below k6).more (Q := (· < w6.heap.size)) fun i hi => Nat.lt_of_lt_of_le hi k6.size
  have z56 := b6.size
  have HM := Lib.hid hM
  clear hM rI5 k5 j5
  go_wp2_with fail
  refine (refScan_any A n c bs w6 rb6 (by omega) hc hc2).mono ?_
  rintro e w7 ⟨v7, gs, at7, rfl, o7, bg7, st7, er7, b7⟩
  obtain ⟨hkeys, e7⟩ := st6.unique er6 st7 er7
  obtain rfl := e7
  have hgl : gs.length = M := by
    have := congrArg List.length hkeys
    simp only [List.length_map] at this
    rw [HM.out]; exact this.symm
  rw [hgl] at o7
  obtain ⟨Y, cY, rfl, _, _, _⟩ := own_form o7
  have rY : RF w7 (· < w7.heap.size) Y M gs := (own_reads o7).more fun _ h => h.2
  have o6 := own_below o6 b7
  have rX : RF w7 (· < w7.heap.size) X M fs := (own_reads o6).more fun _ h => h.2
  have kp7 : ∀ r ∈ fs, w7.ownsRow w5.heap.size 5 1 (.slice r.A r.n r.c) r.n (bytes r.body) := fun r hr => own_below (kp6.1 r hr).1 b7
  have bf7 : Bods w7 fs := kp6.bods.below b7
  have k7 := next_below k6 b7
  have j7 := next_below j6 b7
  have o5 := own_below o5 b7
  have p0 := (b7.cell (p := ⟨w2.heap.size, 0, none⟩) z26).trans p0
  have p1 := (b7.cell (p := ⟨w2.heap.size, 1, none⟩) z26).trans p1
  have s0 := (b7.cell (p := ⟨w4.heap.size, 0, none⟩) z46).trans s0
  have s1 := (b7.cell (p := ⟨w4.heap.size, 1, none⟩) z46).trans s1
  have r7 := r6.below b7
  have rf7 : RB w7 (· < w7.heap.size) A2 nb bd := (own_reads o5).more fun _ h => h.2
  have z27 : w2.heap.size < w7.heap.size := Nat.lt_of_lt_of_le z26 b7.size
  have hsm := st6.small
  have hMn : M ≤ 9223372036854775807 := by
    have := bf7
    have h1 := (own_form o6)
    obtain ⟨_, _, e1, h2, h3, _⟩ := h1
    cases e1
    omega
  have HKY := Lib.hid hkeys
  have HSM := Lib.hid hsm
  clear hkeys hgl k6 j6 r6 rb6 st7 er7 st6 er6
  have hrn : ∀ r ∈ fs, r.n ≤ 65536 := by
    intro r hr
    have h1 := own_len (kp6.1 r hr).1
    have h2 := HSM.out (fkey r) (List.mem_map.2 ⟨r, hr, rfl⟩)
    have h3 : r.body.length ≤ 65536 := h2
    omega
  have hap : ∀ r ∈ fs, (Value.slice X M cX).ownBlock = none ∨ (Value.slice X M cX).ownBlock ≠ bk r := fun r hr => opt_apart (kp6.1 r hr).2
  have hpw : ∀ (i j : Nat) (r s : Fm), i < j → fs[i]? = some r → fs[j]? = some s → bk s = none ∨ bk s ≠ bk r := by
    intro i j r s hij hr hs
    obtain ⟨hi, hi2⟩ := List.getElem?_eq_some_iff.1 hr
    obtain ⟨hj, hj2⟩ := List.getElem?_eq_some_iff.1 hs
    have := List.pairwise_iff_getElem.1 kp6.2 i j hi hj hij
    rw [hi2, hj2] at this
    exact opt_apart this
  have HRN := Lib.hid hrn
  have HAP := Lib.hid hap
  have HPW := Lib.hid hpw
  have HKP := Lib.hid kp7
  clear hrn hap hpw kp6 hsm kp7
  go_wp2_with fail
  refine (sameBytes_yes _ _ A2 nb c2 bd A4 nb c4 w7 rf7 r7 (by omega)).mono ?_
  rintro e w8 ⟨rfl, q, rfl⟩
  have b8 : Below w7.heap.size w7 (w7.drewN q) := below_drewN (Below.refl _ _) q
  have rX8 := rX.below b8
  have rY8 := rY.below b8
  have bf8 := bf7.below b8
  have bg8 := bg7.below b8
  obtain ⟨w8, hw8⟩ : ∃ W, W = w7.drewN q := ⟨_, rfl⟩
  rw [← hw8] at b8 rX8 rY8 bf8 bg8 ⊢
  have p1 := (b8.cell (p := ⟨w2.heap.size, 1, none⟩) z27).trans p1
  clear hw8 rX rY bf7 bg7 p0 s0 s1 r7 rf7
  go_wp2_with fail
  refine (sameFrames_yes _ _ X M cX fs Y cY gs w8 rX8 rY8 bf8 bg8 HKY.out (by omega)).mono ?_
  rintro e w9 ⟨rfl, q2, rfl⟩
  have b9 : Below w7.heap.size w7 (w8.drewN q2) := below_drewN b8 q2
  have p1 : (w8.drewN q2).cell? ⟨w2.heap.size, 1, none⟩ = some (.slice A2 nb c2) := p1
  obtain ⟨w9, hw9⟩ : ∃ W, W = w8.drewN q2 := ⟨_, rfl⟩
  rw [← hw9] at b9 p1 ⊢
  have o9 := own_below o5 b9
  have l9 := own_below o6 b9
  have kb9 : ∀ r ∈ fs, w9.ownsRow w5.heap.size 5 1 (.slice r.A r.n r.c) r.n (bytes r.body) := fun r hr => own_below (HKP.out r hr) b9
  have j9 := next_below j7 b9
  clear hw9 rX8 rY8 bf8 bg8 b8 b9 o5 o6 k7 j7
  go_wp2_with fail
  refine (spoilBytes_own w1.heap.size (.slice A2 nb c2) nb (bytes bd) w9 o9 (by omega)).mono ?_
  rintro e w10 ⟨⟨v10, rfl⟩, g10⟩
  have ap : ∀ {u : Value} {e : TypeId} {size m : Nat} {xs : List Value}, w9.ownsRow w5.heap.size e size u m xs → (u.ownBlock = none ∨ u.ownBlock ≠ (Value.slice A2 nb c2).ownBlock) := by
    intro u e size m xs hu
    rcases hbu : u.ownBlock with _ | x
    · exact .inl rfl
    · refine .inr fun e2 => ?_
      have h1 := (hu.lt x hbu).1
      have h2 := (hA2lt x e2.symm).2
      omega
  have l10 := l9.kept g10 (ap l9)
  have kb10 : ∀ (j : Nat) (r : Fm), 0 ≤ j → fs[j]? = some r → ∃ xs, w10.ownsRow w5.heap.size 5 1 (.slice r.A r.n r.c) r.n xs := fun j r _ hr => ⟨_, (kb9 r (List.mem_of_getElem? hr)).kept g10 (ap (kb9 r (List.mem_of_getElem? hr)))⟩
  have j10 : Below w1.heap.size w1 w10 := j9.grown g10 j9.size fun k hk => (o9.lt k hk).1
  clear ap l9 kb9 g10 o9 j9 p1
  go_wp2
  go_loopw [14] (fun i wr => ∃ k : Nat, k ≤ M ∧ i = .int .i64 k ∧ wr.ownsRow w5.heap.size 48 2 (.slice X M cX) M (fcs fs) ∧ (∀ (j : Nat) (r : Fm), k ≤ j → fs[j]? = some r → ∃ xs, wr.ownsRow w5.heap.size 5 1 (.slice r.A r.n r.c) r.n xs) ∧ Below w1.heap.size w1 wr) (fun i _ => M - (intOf i).toNat)
  case atStart => exact ⟨0, by omega, rfl, l10, kb10, j10⟩
  case round =>
    clear l10 kb10 j10
    obtain ⟨k, hk, rfl, hl, hkb, hB⟩ := hrel
    by_cases hlt : k < M
    · have rX : RF wr (· < wr.heap.size) X M fs := (own_reads hl).more fun _ h => h.2
      obtain ⟨b, off, r, rfl, _, hr, h0, h1⟩ := rX.cell hlt
      obtain ⟨xs, ho⟩ := hkb k r (Nat.le_refl _) hr
      have hmem := List.mem_of_getElem? hr
      have hrn := HRN.out r hmem
      have HR := Lib.hid hr
      have HKB := Lib.hid hkb
      clear hr hkb
      go_wp2_with fail
      refine (spoilBytes_own w5.heap.size (.slice r.A r.n r.c) r.n xs wr ho (by omega)).mono ?_
      rintro e w11 ⟨⟨v11, rfl⟩, g11⟩
      have l11 := hl.kept g11 (HAP.out r hmem)
      have kb11 : ∀ (j : Nat) (s : Fm), k + 1 ≤ j → fs[j]? = some s → ∃ xs, w11.ownsRow w5.heap.size 5 1 (.slice s.A s.n s.c) s.n xs := by
        intro j s hj hs
        obtain ⟨ys, hys⟩ := HKB.out j s (by omega) hs
        exact ⟨ys, hys.kept g11 (HPW.out k j r s (by omega) HR.out hs)⟩
      have j11 : Below w1.heap.size w1 w11 := hB.grown g11 hB.size fun x hx => Nat.le_trans zA (ho.lt x hx).1
      clear g11 ho hB hl rX h0 h1
      go_wp2
      go_roundw
      case rel => exact ⟨k + 1, by omega, by go_num, l11, kb11, j11⟩
      case measure => simp [intOf]; omega
    · obtain rfl : k = M := by omega
      have rIw := rI.below hB
      have kw := next_below k1 hB
      have rbw := hb.below kw
      go_wp2_with fail
      refine (sameBytes_yes _ _ I n cI bs A n c wr rIw rbw (by omega)).mono ?_
      rintro e w12 ⟨rfl, q3, rfl⟩
      have k12 := below_drewN kw q3
      go_wp2_with fail
      refine (shown_any _ (ht.below k12 ht.size)).mono ?_
      rintro e w13 ⟨rfl, b13⟩
      have k13 := next_below k12 b13
      go_wp2
      go_ret
      exact ⟨rfl, k13⟩
end Go.Proofs.YtinenekbdcbcnaaDoor
