/- The walk of the statement CrcBits. -/
import Derived.Test.YtinenekbdcbcnaaDoorCrcCuts
namespace Go.Proofs.YtinenekbdcbcnaaDoor
open Go.RowKit

theorem own_set {w : World} {base g n cap k : Nat} {e : TypeId} {ys : List (BitVec 8)} (h : w.ownsRow base e 1 (.slice (some ⟨g, 0, none⟩) n cap) n (bytes ys)) (z : BitVec 8) (hk : k < n) :
    (w.setCell ⟨g, k, none⟩ (.int .u8 (z.toNat : Int))).ownsRow base e 1 (.slice (some ⟨g, 0, none⟩) n cap) n (bytes (ys.set k z)) := by
  obtain ⟨h1, h2⟩ := h
  refine ⟨by rw [bytes_length] at *; rw [List.length_set]; exact h1, ?_⟩
  rcases h2 with ⟨h2, _⟩ | ⟨g', cap', cur, hv, hb, hg, hn, hm, hs, ht⟩
  · cases h2
  · injection hv with e1 _ e2
    injection e1 with e1
    injection e1 with e1
    subst e1 e2
    refine .inr ⟨g, cap, cur.setIfInBounds k (.int .u8 (z.toNat : Int)), rfl, hb, set_heap hg k _, hn, hm, by simpa using hs, ?_⟩
    rw [Array.toList_setIfInBounds, List.take_set, ht, bytes, bytes, List.map_set]; rfl

theorem own_frozen {w : World} {base g n cap : Nat} {e : TypeId} {size m : Nat} {xs : List Value} (h : w.ownsRow base e size (.slice (some ⟨g, 0, none⟩) n cap) m xs) (i : Nat) : w.frozen? ⟨g, i, none⟩ = false := by
  rcases h.2 with ⟨h2, _⟩ | ⟨g', cap', cur, hv, hb, hg, _⟩
  · cases h2
  · injection hv with e1 _ e2
    injection e1 with e1
    injection e1 with e1
    subst e1 e2
    simp [World.frozen?, hg]
theorem bit_of (w : BitVec 32) (j : Nat) : (((w.toNat : Int) / 2 ^ j).tmod 2 == 1) = w.getLsbD j := by
  have h1 : ((w.toNat : Int) / 2 ^ j) = ((w.toNat / 2 ^ j : Nat) : Int) := by simp
  rw [h1, Int.tmod_eq_emod_of_nonneg (Int.natCast_nonneg _), BitVec.getLsbD, Nat.testBit_eq_decide_div_mod_eq, Bool.eq_iff_iff, beq_iff_eq, decide_eq_true_eq]
  omega

theorem shl_one (r : Nat) (h : r < 8) : ((2 : Int) ^ r % 256) = ((1#8 <<< r).toNat : Int) := by
  have : ∀ r, r < 8 → ((2 : Int) ^ r % 256) = ((1#8 <<< r).toNat : Int) := by decide
  exact this r h
theorem count_no {which : BitVec 32} {k C : Nat} (h : C = 0 ↔ ∀ j, j < k → which.getLsbD j = false) (hb : which.getLsbD k = false) : C = 0 ↔ ∀ j, j < k + 1 → which.getLsbD j = false := by
  rw [h]
  constructor
  · intro h1 j hj
    by_cases e : j = k
    · subst e; exact hb
    · exact h1 j (by omega)
  · intro h1 j hj; exact h1 j (by omega)
theorem count_yes {which : BitVec 32} {k C : Nat} (hb : which.getLsbD k = true) : C + 1 = 0 ↔ ∀ j, j < k + 1 → which.getLsbD j = false := by
  constructor
  · intro h; omega
  · intro h; have := h k (by omega); rw [hb] at this; cases this
theorem bits_end {bs ys : List (BitVec 8)} {n fr k C : Nat} {which u v : BitVec 32} (hn : bs.length = n) (hf : fr < 8 * n) (hk : k ≤ 32) (hend : ¬ (k < 32 ∧ fr + k < 8 * n)) (hT : (ys.length = bs.length ∧ ∀ j, j < 8 * bs.length →
      (CrcM.allBits ys).getD j false = ((CrcM.allBits bs).getD j false ^^ (decide (fr ≤ j ∧ j < fr + k) && which.getLsbD (j - fr)))))
    (hC : C = 0 ↔ ∀ j, j < k → which.getLsbD j = false) (hu : u = CrcM.more 0#32 ys) (hv : v = CrcM.more 0#32 bs) (hkn : fr + k ≤ 8 * n) :
    ((u.toNat : Int) != (v.toNat : Int)) = decide (0 < C) := by
  subst hn
  have h1 : u = v ↔ C = 0 := by
    rw [hu, hv, hC]
    refine (CrcM.bits_law bs ys fr which hT.1 hf fun j hj => ?_).trans ?_
    · rw [hT.2 j hj]
      congr 1
      rw [show decide (fr ≤ j ∧ j < fr + 32) = decide (fr ≤ j ∧ j < fr + k) from decide_eq_decide.2 (by omega)]
    · constructor
      · intro h j hj; exact h j (by omega) (by omega)
      · intro h j h2 h3; exact h j (by omega)
  rw [Bool.eq_iff_iff, bne_iff_ne, decide_eq_true_eq]
  constructor
  · intro h
    have : ¬ C = 0 := fun e => h (by rw [h1.2 e])
    omega
  · intro h e
    have := h1.1 (BitVec.eq_of_toNat_eq (by omega))
    omega

/-- A list with bits turned from bit fr on, as the first k bits of a word say. -/
def Turned (bs ys : List (BitVec 8)) (fr k : Nat) (which : BitVec 32) : Prop :=
  ys.length = bs.length ∧ ∀ j, j < 8 * bs.length → (CrcM.allBits ys).getD j false = ((CrcM.allBits bs).getD j false ^^ (decide (fr ≤ j ∧ j < fr + k) && which.getLsbD (j - fr)))
theorem Turned.start (bs : List (BitVec 8)) (fr : Nat) (which : BitVec 32) : Turned bs bs fr 0 which :=
  ⟨rfl, fun j _ => by rw [show decide (fr ≤ j ∧ j < fr + 0) = false from decide_eq_false (by omega)]; simp⟩
theorem Turned.no {bs ys : List (BitVec 8)} {fr k : Nat} {which : BitVec 32} (h : Turned bs ys fr k which) (hb : which.getLsbD k = false) : Turned bs ys fr (k + 1) which := by
  refine ⟨h.1, fun j hj => ?_⟩
  rw [h.2 j hj]
  congr 1
  by_cases hjk : j = fr + k
  · subst hjk
    rw [show fr + k - fr = k from by omega, hb]; simp
  · rw [show decide (fr ≤ j ∧ j < fr + (k + 1)) = decide (fr ≤ j ∧ j < fr + k) from decide_eq_decide.2 (by omega)]
theorem Turned.yes {bs ys : List (BitVec 8)} {fr k : Nat} {which : BitVec 32} (h : Turned bs ys fr k which) (hb : which.getLsbD k = true) (y : BitVec 8) (hy : ys[(fr + k) / 8]? = some y) :
    Turned bs (ys.set ((fr + k) / 8) (y ^^^ (1#8 <<< ((fr + k) % 8)))) fr (k + 1) which := by
  refine ⟨by rw [List.length_set]; exact h.1, fun j hj => ?_⟩
  have hs : (CrcM.allBits (ys.set ((fr + k) / 8) (y ^^^ (1#8 <<< ((fr + k) % 8))))).getD j false = ((CrcM.allBits ys).getD j false ^^ decide (j = fr + k)) := by
    rw [CrcM.allBits_get, CrcM.allBits_get]
    by_cases hp : j / 8 = (fr + k) / 8
    · have hl : (fr + k) / 8 < ys.length := (List.getElem?_eq_some_iff.1 hy).1
      have e1 : (ys.set ((fr + k) / 8) (y ^^^ (1#8 <<< ((fr + k) % 8)))).getD (j / 8) 0#8 = y ^^^ (1#8 <<< ((fr + k) % 8)) := by
        rw [hp, List.getD_eq_getElem?_getD, List.getElem?_set_self hl]; rfl
      have e2 : ys.getD (j / 8) 0#8 = y := by rw [hp, List.getD_eq_getElem?_getD, hy]; rfl
      rw [e1, e2, BitVec.getLsbD_xor]
      congr 1
      rw [BitVec.getLsbD_shiftLeft]
      by_cases hr : j % 8 = (fr + k) % 8
      · rw [hr]
        simp [show j = fr + k from by omega, show (fr + k) % 8 < 8 from by omega]
      · rw [show decide (j = fr + k) = false from by simp; omega]
        by_cases hlt : j % 8 < (fr + k) % 8
        · simp [hlt]
        · have : (1#8).getLsbD (j % 8 - (fr + k) % 8) = false := by
            have hne : j % 8 - (fr + k) % 8 ≠ 0 := by omega
            simp [BitVec.getLsbD_one, hne]
          rw [this]; simp
    · rw [show decide (j = fr + k) = false from by simp; rintro rfl; exact hp rfl]
      rw [List.getD_eq_getElem?_getD, List.getElem?_set_ne (fun e => hp e.symm), List.getD_eq_getElem?_getD]; simp
  rw [hs, h.2 j hj, Bool.xor_assoc]
  congr 1
  by_cases hjk : j = fr + k
  · subst hjk
    rw [show fr + k - fr = k from by omega, hb]
    simp
  · rw [show decide (fr ≤ j ∧ j < fr + (k + 1)) = decide (fr ≤ j ∧ j < fr + k) from decide_eq_decide.2 (by omega)]
    simp [hjk]

set_option maxHeartbeats 1000000 in
theorem bits_walk (A : Option Addr) (n c : Nat) (bs : List (BitVec 8)) (from_ : Int) (which : BitVec 32) (w : World) (ht : Tabs w) (hb : RB w (· < w.heap.size) A n bs) (hl : n ≤ c) (hm : c ≤ 9223372036854775807)
    (hf : -9223372036854775808 ≤ from_ ∧ from_ ≤ 9223372036854775807) :
    Calls Tryd.prog 7 #[.slice A n c, .int .i64 from_, .int .u32 (which.toNat : Int)] w fun e w' => e = .returned (.bool true) ∧ Below w.heap.size w w' := by
  by_cases hbig : 4096 < n ∨ n = 0
  · have hd : decide (4096 < (n : Int)) = true ∨ decide (4096 < (n : Int)) = false ∧ ((n : Int) == 0) = true := by
      by_cases h : 4096 < n
      · exact .inl (by simp; omega)
      · exact .inr ⟨by simp; omega, by simp; omega⟩
    rcases hd with hd | ⟨hd, hd2⟩
    all_goals
      clear hbig
      go_enter Tryd.func7, Tryd.ntmps7
      go_wp2_with fail
      refine (known_any w ht).mono ?_
      rintro e w1 ⟨rfl, hB⟩
      go_wp2
      go_ret
      exact ⟨rfl, hB⟩
  · have h1 : n ≤ 4096 := by omega
    have h2 : 0 < n := by omega
    have hd : decide (4096 < (n : Int)) = false := by simp; omega
    have hd2 : ((n : Int) == 0) = false := by simp; omega
    clear hbig
    have hp0 := Int.emod_nonneg from_ (show (8 * (n : Int)) ≠ 0 by omega)
    have hp1 := Int.emod_lt_of_pos from_ (show (0 : Int) < 8 * n by omega)
    obtain ⟨fr, hfr⟩ := Int.eq_ofNat_of_zero_le hp0
    rw [hfr] at hp0 hp1
    go_enter Tryd.func7, Tryd.ntmps7
    go_wp2_with fail
    refine (pick_pos from_ (8 * n) _ (by omega) (by omega) hf.1 hf.2).mono ?_
    rintro e w1 ⟨rfl, rfl⟩
    rw [hfr]
    clear hfr hf
    go_wp2_with fail
    refine (copyBytes_any _ A n c bs w hb (fun _ h => h) (by omega)).mono ?_
    rintro e w1 ⟨v, rfl, hown, hB⟩
    obtain ⟨g, cap, rfl, hg1, hg2⟩ := hown.form h2
    go_wp2_with fail
    go_loopw [8, 9] (fun cn i wr => ∃ (k C : Nat) (ys : List (BitVec 8)), k ≤ 32 ∧ fr + k ≤ 8 * n ∧ i = .int .i64 k ∧ cn = .int .i64 C ∧ C ≤ k ∧ (C = 0 ↔ ∀ j, j < k → which.getLsbD j = false) ∧
        wr.ownsRow w.heap.size 5 1 (.slice (some ⟨g, 0, none⟩) n cap) n (bytes ys) ∧ Turned bs ys fr k which ∧ Below w.heap.size w wr) (fun _ i _ => 32 - (intOf i).toNat)
    case atStart => exact ⟨0, 0, bs, by omega, by omega, rfl, rfl, by omega, by simp, hown, Turned.start _ _ _, hB⟩
    case round =>
      clear hown hB
      obtain ⟨k, C, ys, hk, hkn, rfl, rfl, hCk, hC, hown, hT, hB⟩ := hrel
      by_cases hlt : k < 32 ∧ fr + k < 8 * n
      · obtain ⟨hl1, hl2⟩ := hlt
        cases hbit : which.getLsbD k
        · have e1 : (((which.toNat : Int) / 2 ^ k).tmod 2 == 1) = false := by rw [bit_of, hbit]
          have HB := Lib.hid hbit
          clear hbit
          go_wp2
          go_roundw
          case rel => exact ⟨k + 1, C, ys, by omega, by omega, by go_num, rfl, by omega, count_no hC HB.out, hown, hT.no HB.out, hB⟩
          case measure => simp [intOf]; omega
        · have e1 : (((which.toNat : Int) / 2 ^ k).tmod 2 == 1) = true := by rw [bit_of, hbit]
          have HB := Lib.hid hbit
          clear hbit
          have hlen : ys.length = n := by rw [hT.1, hb.len]
          obtain ⟨y, hy⟩ : ∃ y, ys[(fr + k) / 8]? = some y := ⟨_, List.getElem?_eq_getElem (by omega)⟩
          have hcell : wr.cell? ⟨g, (fr + k) / 8, none⟩ = some (.int .u8 (y.toNat : Int)) := by
            have := (own_reads hown).cell rfl (j := (fr + k) / 8) (u := .int .u8 (y.toNat : Int)) (by rw [bytes_get, hy]; rfl)
            rwa [Nat.zero_add] at this
          have hfro : wr.frozen? ⟨g, (fr + k) / 8, none⟩ = false := own_frozen hown _
          have HY := Lib.hid hy
          obtain ⟨z, hz⟩ : ∃ z, z = y ^^^ (1#8 <<< ((fr + k) % 8)) := ⟨_, rfl⟩
          have hX : bits BinOp.xor IntKind.u8 (y.toNat : Int) ((2 : Int) ^ ((fr + k) % 8) % 256) = (z.toNat : Int) := by rw [shl_one _ (by omega), xor8, hz]
          have R1 := own_set hown z (k := (fr + k) / 8) (by omega)
          have R2 : Turned bs (ys.set ((fr + k) / 8) z) fr (k + 1) which := by rw [hz]; exact hT.yes HB.out y hy
          have R3 : Below w.heap.size w (wr.setCell ⟨g, (fr + k) / 8, none⟩ (.int .u8 (z.toNat : Int))) := hB.setCell (p := ⟨g, (fr + k) / 8, none⟩) hg1 _
          clear hy hlen hz
          go_wp2
          go_roundw
          case rel => exact ⟨k + 1, C + 1, _, by omega, by omega, by go_num, by go_num, by omega, count_yes HB.out, R1, R2, R3⟩
          case measure => simp [intOf]; omega
      · have hfin := fun (u v : BitVec 32) hu hv => bits_end (u := u) (v := v) hb.len (by omega) hk hlt hT hC hu hv hkn
        have HF := Lib.hid hfin
        clear hfin
        have hx : RB wr (· < wr.heap.size) (some ⟨g, 0, none⟩) n ys := (own_reads hown).more fun _ h => h.2
        have hcap : n ≤ cap := by obtain ⟨A', c', e1, h3, _⟩ := own_form hown; injection e1 with _ _ e3; omega
        have hd3 : decide ((k : Int) < 32) = true ∧ decide ((fr : Int) + (k : Int) < 8 * (n : Int)) = false ∨ decide ((k : Int) < 32) = false := by
          by_cases h : k < 32
          · exact .inl ⟨by simp; omega, by simp; omega⟩
          · exact .inr (by simp; omega)
        clear hlt hT hC hown
        rcases hd3 with ⟨hd3, hd4⟩ | hd3
        all_goals
          go_wp2_with fail
          refine (sum_x _ _ n cap ys wr hx (ht.below hB ht.size) (by omega)).mono ?_
          rintro e w2 ⟨u, rfl, hu, q1, rfl⟩
          have HU := Lib.hid hu
          clear hu
          go_wp2_with fail
          refine (sum_x _ A n c bs _ ((hb.below hB).keep (w' := wr.drewN q1) (fun _ _ => rfl)) ((ht.below hB ht.size).drewN q1) (by omega)).mono ?_
          rintro e w3 ⟨v, rfl, hv, q2, rfl⟩
          have hbe := HF.out u v HU.out hv
          obtain ⟨β, hβ⟩ : ∃ β, β = decide (0 < C) := ⟨_, rfl⟩
          rw [← hβ] at hbe
          have hβ' := hβ.symm
          clear HU hv hβ
          go_wp2_with fail
          refine (known_any _ ((ht.below hB ht.size).drewN (q1 + q2))).mono ?_
          rintro e w4 ⟨rfl, hB4⟩
          have k4 : Below w.heap.size w w4 := next_below (below_drewN hB (q1 + q2)) hB4
          clear hB4
          go_wp2
          go_ret
          exact ⟨rfl, k4⟩
end Go.Proofs.YtinenekbdcbcnaaDoor
