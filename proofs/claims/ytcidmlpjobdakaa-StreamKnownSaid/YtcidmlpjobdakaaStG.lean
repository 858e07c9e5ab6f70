/- A part of a list of entries, as it lies; StreamFrom. -/
import Derived.Test.YtcidmlpjobdakaaStF
import Derived.Test.YtcidmlpjobdakaaPick
namespace Go.Proofs.Ytcidmlpjobdakaa
set_option linter.unusedSimpArgs false
set_option linter.unusedVariables false
set_option linter.unnecessarySimpa false
open Go.RowKit

theorem ncs_take (l : List En) (k : Nat) : (l.flatMap nc).take (k * 13) = (l.take k).flatMap nc := by
  induction l generalizing k with
  | nil => simp
  | cons a l ih =>
    rcases k with _ | k
    · simp
    · rw [List.flatMap_cons, List.take_succ_cons, List.flatMap_cons, ← ih k, show (k + 1) * 13 = (nc a).length + k * 13 from by rw [nc_length]; omega, List.take_length_add_append]
theorem ncs_drop (l : List En) (k : Nat) : (l.flatMap nc).drop (k * 13) = (l.drop k).flatMap nc := by
  induction l generalizing k with
  | nil => simp
  | cons a l ih =>
    rcases k with _ | k
    · simp
    · rw [List.flatMap_cons, List.drop_succ_cons, ← ih k, show (k + 1) * 13 = (nc a).length + k * 13 from by rw [nc_length]; omega, List.drop_length_add_append]
section
variable {w w' : World} {P Q : Nat → Prop} {n : Nat} {A : Option Addr} {l : List En}
theorem RL.take (h : RL w P A n l) {k : Nat} (hk : k ≤ n) : RL w P A k (l.take k) := by
  refine ⟨?_, fun r hr => h.2 r (List.mem_of_mem_take hr)⟩
  have := Reads.take h.1 hk
  rwa [ncs_take] at this
theorem RL.cut {cap : Nat} (h : RL w P A n l) {k : Nat} (hk : k ≤ n) (hc : n ≤ cap) : RL w P (if cap = k then A else A.map (·.add (k * 13))) (n - k) (l.drop k) := by
  refine ⟨?_, fun r hr => h.2 r (List.mem_of_mem_drop hr)⟩
  by_cases h0 : k = n
  · subst h0
    rw [Nat.sub_self, List.drop_of_length_le (Nat.le_of_eq h.len)]
    exact Reads.zero
  · rw [if_neg (by omega)]
    obtain ⟨b, off, e, _⟩ := h.1.2 (by omega)
    subst e
    have := Reads.drop (k := k) h.1 hk (some ⟨b, off + k * 13, none⟩) (fun _ => rfl)
    rw [ncs_drop] at this
    have e : (some ⟨b, off, none⟩ : Option Addr).map (·.add (k * 13)) = some ⟨b, off + k * 13, none⟩ := by
      show some ((⟨b, off, none⟩ : Addr).add (k * 13)) = _
      congr 1
      unfold Addr.add; split <;> simp_all
    rw [e]; exact this
theorem RL.mid {cap : Nat} (h : RL w P A n l) {a b : Nat} (hab : a ≤ b) (hb : b ≤ n) (hc : n ≤ cap) : RL w P (if cap = a then A else A.map (·.add (a * 13))) (b - a) ((l.drop a).take (b - a)) := (h.cut (by omega) hc).take (by omega)
end

theorem from_mid {α : Type} (X : List α) (F M : Nat) : (X.drop F).take M = (X.drop (min F X.length)).take (min (min F X.length + M) X.length - min F X.length) := by
  by_cases h : F ≤ X.length
  · rw [Nat.min_eq_left h, List.take_eq_take_iff, List.length_drop]
    omega
  · rw [Nat.min_eq_right (show X.length ≤ F by omega), List.drop_of_length_le (show X.length ≤ F by omega), List.drop_of_length_le (Nat.le_refl X.length)]
    simp
theorem strRead_nat (P : Nat → Prop) (A : Option Addr) (n c : Nat) (l : List En) (t a : Int) (F M : Nat) (w : World) (hl : RL w P A n l) (hP : ∀ i, P i → i < w.heap.size) (hn : n ≤ 1000000000) (hf : ∀ r ∈ l, r.e.n ≤ 1099511627000) :
    Calls Try.prog 17 #[.slice A n c, .int .i64 t, .int .i64 a, .int .i64 (F : Int), .int .i64 (M : Int)] w fun e w' => ∃ v ns, e = .returned (.tuple #[v, .bool (decide (F + M < (l.filter (readIs t a)).length))]) ∧ ns.map nkey = (((l.map nkey).filter (fun k => decide (k.1.2.2.1 = t) && decide (k.1.2.2.2.1 = a))).drop F).take M ∧ FreshIn w' w.heap.size w'.heap.size v ns ∧ Below w.heap.size w w' := by
  refine (strRead_any P A n c l t a F M w hl hP hn hf).mono ?_
  rintro e w' ⟨v, ns, he, hk, hF, hB⟩
  rw [Int.toNat_natCast, Int.toNat_natCast] at he hk
  refine ⟨v, ns, he, ?_, hF.inn, hB⟩
  rw [hk, List.map_take, List.map_drop, List.filter_map]
  rfl

/-- What an entry's words say of its aggregate, in its key. -/
def kIs (t a : Int) (k : ((Int × Int × Int) × List Int × (Int × Int × Int × Int × Int × Int)) × Bool × Int × Int) : Bool := decide (k.1.2.2.1 = t) && decide (k.1.2.2.2.1 = a)
theorem keys_filter (t a : Int) (l : List En) : (l.filter (readIs t a)).map nkey = (l.map nkey).filter (kIs t a) := by
  rw [List.filter_map]; rfl
theorem len_filter (t a : Int) (l : List En) : (l.filter (readIs t a)).length = ((l.map nkey).filter (kIs t a)).length := by
  rw [← keys_filter, List.length_map]
theorem nat_of (z : Int) (n : Int) (hn : 1 ≤ n) : ∃ F : Nat, z % n = (F : Int) ∧ (F : Int) < n := by
  have h1 := Int.emod_nonneg z (show n ≠ 0 by omega)
  have h2 := Int.emod_lt_of_pos z (show 0 < n by omega)
  exact ⟨(z % n).toNat, (Int.toNat_of_nonneg h1).symm, by rw [Int.toNat_of_nonneg h1]; exact h2⟩

set_option maxHeartbeats 1600000 in
set_option maxRecDepth 100000 in
theorem streamFrom_any (P : Nat → Prop) (A : Option Addr) (n c : Nat) (l : List En) (t a f m : Int) (w : World) (hl : RL w P A n l) (hP : ∀ i, P i → i < w.heap.size) (hn : n ≤ 9223372036854775807) (hf1 : -9223372036854775808 ≤ f) (hf2 : f ≤ 9223372036854775807) (hm1 : -9223372036854775808 ≤ m) (hm2 : m ≤ 9223372036854775807) :
    Calls Try.prog 8 #[.slice A n c, .int .i64 t, .int .i64 a, .int .i64 f, .int .i64 m] w fun r w' => r = .returned (.bool true) ∧ Below w.heap.size w w' := by
  obtain ⟨F, hF, hF4⟩ := nat_of f 401 (by decide)
  obtain ⟨M, hM, hM4⟩ := nat_of m 401 (by decide)
  obtain ⟨KS, hKS⟩ : ∃ KS, KS = (l.map nkey).filter (kIs t a) := ⟨_, rfl⟩
  have hKl : (l.filter (readIs t a)).length = KS.length := by rw [hKS]; exact len_filter t a l
  have hmid := from_mid KS F M
  obtain ⟨K, hK⟩ : ∃ K, K = KS.length := ⟨_, rfl⟩
  rw [← hK] at hmid hKl
  obtain ⟨AT, hAT⟩ : ∃ AT, AT = min F K := ⟨_, rfl⟩
  rw [← hAT] at hmid
  obtain ⟨EN, hEN⟩ : ∃ EN, EN = min (AT + M) K := ⟨_, rfl⟩
  rw [← hEN] at hmid
  have hK3 : K ≤ l.length := by rw [← hKl]; exact List.length_filter_le _ _
  have HKS := Lib.hid hKS
  have HK := Lib.hid hK
  have HKL := Lib.hid hKl
  have HMID := Lib.hid hmid
  have HF := Lib.hid hF
  have HM := Lib.hid hM
  clear hKS hK hKl hmid hF hM
  go_enter Try.func8, Try.ntmps8
  go_wp2_with fail
  refine (long14_any P A n c l w hl hn).mono ?_
  rintro e _ ⟨β, rfl, hβ, q, rfl⟩
  obtain ⟨w0, hw0⟩ : ∃ W, W = w.drewN q := ⟨_, rfl⟩
  have b0 : Below w.heap.size w w0 := by rw [hw0]; exact below_drewN (Below.refl _ _) q
  have z0 : w.heap.size ≤ w0.heap.size := b0.size
  have L0 : RL w0 (fun i => i < w.heap.size) A n l := (hl.keep fun i hi => b0.block i (hP i hi)).more fun i hi => hP i hi
  rw [← hw0]
  have hln := L0.len
  clear hw0 hl hP
  rcases β with _ | _
  case true =>
    clear hβ
    go_wp2_with fail
    refine (works14 w0).mono ?_
    rintro e w1 ⟨rfl, b1⟩
    have k1 := next_below b0 b1
    go_wp2
    go_ret
    exact ⟨rfl, k1⟩
  case false =>
    obtain ⟨h300, h100⟩ := hβ rfl
    have hf : ∀ r ∈ l, r.e.n ≤ 1099511627000 := fun r hr => by have := h100 r hr; omega
    have hn2 : n ≤ 1000000000 := by omega
    clear h100 hβ
    go_wp2_with fail
    refine (pick_pos f 401 w0 (by decide) (by decide) hf1 hf2).mono ?_
    rintro e _ ⟨he, rfl⟩
    rw [HF.out] at he
    obtain rfl := he
    go_wp2_with fail
    refine (pick_pos m 401 w0 (by decide) (by decide) hm1 hm2).mono ?_
    rintro e _ ⟨he, rfl⟩
    rw [HM.out] at he
    obtain rfl := he
    go_wp2_with fail
    have HR := strRead_nat (fun i => i < w.heap.size) A n c l t a 0 1000 w0 L0 (fun i hi => by omega) hn2 hf
    refine HR.mono ?_
    rintro e w1 ⟨vw, nw, rfl, hkw, W1, b1⟩
    have hkw : nw.map nkey = KS := by
      rw [hkw, HKS.out, List.drop_zero]
      refine List.take_of_length_le ?_
      have := List.length_filter_le (fun k : ((Int × Int × Int) × List Int × (Int × Int × Int × Int × Int × Int)) × Bool × Int × Int => decide (k.1.2.2.1 = t) && decide (k.1.2.2.2.1 = a)) (l.map nkey)
      rw [List.length_map] at this
      omega
    have hlw : nw.length = K := by rw [HK.out, ← hkw, List.length_map]
    obtain ⟨Aw, cw, rfl, hcw, hcw2⟩ := W1.form
    rw [hlw] at hcw W1 ⊢
    have z1 := b1.size
    have k1 := next_below b0 b1
    have L1 : RL w1 (fun i => i < w.heap.size) A n l := L0.keep fun i hi => b1.block i (by omega)
    have HKW := Lib.hid hkw
    clear HR hkw hlw b0 b1 L0
    go_wp2_with fail
    refine (strRead_nat (fun i => i < w.heap.size) A n c l t a F M w1 L1 (fun i hi => by omega) hn2 hf).mono ?_
    rintro e w2 ⟨vp, np, he, hkp, P2, b2⟩
    rw [HKL.out] at he
    obtain ⟨δ, hδ⟩ : ∃ δ, δ = decide (F + M < K) := ⟨_, rfl⟩
    rw [← hδ] at he
    obtain rfl := he
    have hkp : np.map nkey = (KS.drop F).take M := by rw [hkp, HKS.out]; rfl
    have hlp : np.length = min M (K - F) := by
      have := congrArg List.length hkp
      rw [List.length_map, List.length_take, List.length_drop, ← HK.out] at this
      exact this
    obtain ⟨Ap, cp, rfl, hcp, hcp2⟩ := P2.form
    obtain ⟨p, hp⟩ : ∃ p, p = np.length := ⟨_, rfl⟩
    rw [← hp] at hlp hcp P2 ⊢
    have z2 := b2.size
    have k2 := next_below k1 b2
    have L2 : RL w2 (fun i => i < w.heap.size) A n l := L1.keep fun i hi => b2.block i (by omega)
    have W2 := W1.below b2 (Nat.le_refl _)
    have dEN : decide ((EN : Int) < (K : Int)) = δ := by
      rw [hδ]
      have hi : ((EN : Int) < (K : Int)) ↔ F + M < K := by omega
      exact decide_eq_decide.2 hi
    have dEN' : decide (EN < K) = δ := by
      rw [hδ]
      have hi : (EN < K) ↔ F + M < K := by omega
      exact decide_eq_decide.2 hi
    have hpe : p = EN - AT := by omega
    have hATEN : AT ≤ EN := by omega
    have hENK : EN ≤ K := by omega
    have HP := Lib.hid hp
    have HKP := Lib.hid hkp
    have HLP := Lib.hid hlp
    have HAT := Lib.hid hAT
    have HEN := Lib.hid hEN
    have DEN := Lib.hid dEN
    have DEN' := Lib.hid dEN'
    have HPE := Lib.hid hpe
    clear hp hkp hlp hδ dEN dEN' hAT hEN hpe k1 b2 L1 W1
    go_upto_region 7 with fail
    go_cut [15] from 42 to 45 (fun s15 wx => s15 = .int .i64 (AT : Int) ∧ w2 = wx)
    case first =>
      by_cases h : F ≤ K
      · have e0 : AT = F := by have := HAT.out; omega
        have d1 : (F : Int) ≤ (K : Int) := by omega
        have E0 := Lib.hid e0
        clear e0
        go_wp2
        go_meet
        case rel => exact ⟨by rw [E0.out], rfl⟩
      · have e0 : AT = K := by have := HAT.out; omega
        have d1 : ¬ (F : Int) ≤ (K : Int) := by omega
        have E0 := Lib.hid e0
        clear e0
        go_wp2
        go_meet
        case rel => exact ⟨by rw [E0.out], rfl⟩
    case rest =>
      obtain ⟨rfl, rfl⟩ := hcut
      go_upto_region 8 with fail
      go_cut [16] from 46 to 51 (fun s16 wx => s16 = .int .i64 (EN : Int) ∧ w2 = wx)
      case first =>
        have hat4 : AT ≤ 400 := by have := HAT.out; omega
        by_cases h : AT + M ≤ K
        · have e0 : EN = AT + M := by have := HEN.out; omega
          have d1 : (AT : Int) + (M : Int) ≤ (K : Int) := by omega
          have E0 := Lib.hid e0
          clear e0
          go_wp2
          go_meet
          case rel => exact ⟨by rw [E0.out]; rfl, rfl⟩
        · have e0 : EN = K := by have := HEN.out; omega
          have d1 : ¬ (AT : Int) + (M : Int) ≤ (K : Int) := by omega
          have E0 := Lib.hid e0
          clear e0
          go_wp2
          go_meet
          case rel => exact ⟨by rw [E0.out], rfl⟩
      case rest =>
        obtain ⟨rfl, rfl⟩ := hcut
        have HN := strRead_nat (fun i => i < w.heap.size) A n c l t a F (M + 1) w2 L2 (fun i hi => by omega) hn2 hf
        rw [show ((M + 1 : Nat) : Int) = (M : Int) + 1 from rfl] at HN
        go_wp2_with fail
        refine HN.mono ?_
        rintro e w3 ⟨vn, nn, he, hkn, N3, b3⟩
        obtain ⟨γ, hγ⟩ : ∃ γ, γ = decide (F + (M + 1) < (l.filter (readIs t a)).length) := ⟨_, rfl⟩
        rw [← hγ] at he
        obtain rfl := he
        have hkn : nn.map nkey = (KS.drop F).take (M + 1) := by rw [hkn, HKS.out]; rfl
        have hln2 : nn.length = min (M + 1) (K - F) := by
          have := congrArg List.length hkn
          rw [List.length_map, List.length_take, List.length_drop, ← HK.out] at this
          exact this
        obtain ⟨An, cn, rfl, hcn, hcn2⟩ := N3.form
        obtain ⟨x, hx⟩ : ∃ x, x = nn.length := ⟨_, rfl⟩
        rw [← hx] at hln2 hcn N3 ⊢
        have hpx : p ≤ x := by have := HLP.out; omega
        have z3 := b3.size
        have k3 := next_below k2 b3
        have W3 := W2.below b3 (by omega)
        have P3 := P2.below b3 (Nat.le_refl _)
        have hknp : (nn.take p).map nkey = np.map nkey := by
          rw [List.map_take, hkn, HKP.out, List.take_take, List.take_eq_take_iff, List.length_drop, ← HK.out]
          have := HLP.out
          omega
        have hkwm : ((nw.drop AT).take (EN - AT)).map nkey = np.map nkey := by
          rw [List.map_take, List.map_drop, HKW.out, HKP.out, HMID.out]
        have hmidw := W3.list.1.mid (cap := cw) hATEN hENK hcw
        have hpn := N3.list.1.take hpx
        rw [← HPE.out] at hmidw hkwm
        have d1 : decide ((EN : Int) < (AT : Int)) = false := by simp; omega
        have d2 : decide ((K : Int) < (EN : Int)) = false := by simp; omega
        have d3 : decide ((p : Int) ≤ (x : Int)) = true := by simp; omega
        have d3' : decide (p ≤ x) = true := by simp; omega
        have d4 := DEN.out
        have d4' := DEN'.out
        have d5 : (δ == δ) = true := by simp
        have HKNP := Lib.hid hknp
        have HKWM := Lib.hid hkwm
        clear hkn hln2 hx hknp hkwm hγ HN L2 P2 W2 k2 b3
        go_wp2_with fail
        all_goals
          rw [← HPE.out]
          first | rw [if_pos (by assumption)] at hmidw | rw [if_neg (by assumption)] at hmidw
          refine (sameEntries_yes _ _ Ap p cp np _ _ _ w3 P3.list.1 hmidw HKWM.out.symm (fun i hi => by omega) (fun i hi => by omega) (by omega)).mono ?_
          rintro e w4 ⟨rfl, b4⟩
          have k4 := next_below k3 b4
          have z4 := b4.size
          have P4 := P3.below b4 (by omega)
          have hpn4 := hpn.keep fun i hi => b4.block i hi.2
          clear hmidw hpn P3 W3 N3 k3 b4
          go_wp2_with fail
          refine (sameEntries_yes _ _ An p cn _ Ap cp np w4 hpn4 P4.list.1 HKNP.out (fun i hi => by omega) (fun i hi => by omega) (by omega)).mono ?_
          rintro e w5 ⟨rfl, b5⟩
          have k5 := next_below k4 b5
          clear hpn4 P4 k4 b5
          go_wp2_with fail
          refine (works14 w5).mono ?_
          rintro e w6 ⟨rfl, b6⟩
          have k6 := next_below k5 b6
          clear k5 b6
          go_wp2
          go_ret
          exact ⟨rfl, k6⟩
end Go.Proofs.Ytcidmlpjobdakaa
