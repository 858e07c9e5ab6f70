/- A piece that is hung on to a list of entries; StreamPieces. -/
import Derived.Test.YtcidmlpjobdakaaStG
namespace Go.Proofs.Ytcidmlpjobdakaa
set_option linter.unusedSimpArgs false
set_option linter.unusedVariables false
set_option linter.unnecessarySimpa false
open Go.RowKit

theorem Fresh.app {w w1 w2 : World} {n₀ : Nat} {v v' vp : Value} {ns ps : List En} (h : Fresh w n₀ v ns) (hn₀ : n₀ ≤ w.heap.size) (hB : Below w.heap.size w w1) (hp : FreshIn w1 w.heap.size w1.heap.size vp ps)
    (ho : w2.ownsRow n₀ 39 13 v' (ns.length + ps.length) (ns.flatMap nc ++ ps.flatMap nc)) (hgr : w1.grownBy w2 v.ownBlock) (hat : v'.ownBlock = v.ownBlock ∨ v'.ownBlock = some w1.heap.size) : Fresh w2 n₀ v' (ns ++ ps) := by
  have z1 := hB.size
  have z2 := hgr.size
  have hvb : ∀ i, some i = v.ownBlock → i < w.heap.size := fun i e => (h.row.lt i e.symm).2
  refine ⟨by rw [ncs_append, List.length_append]; exact ho, fun x hx => ?_⟩
  rcases List.mem_append.1 hx with hx | hx
  · obtain ⟨h5, h6⟩ := h.deps x hx
    have hh : ∀ i, (n₀ ≤ i ∧ i < w.heap.size ∧ CellsAt w i ∧ some i ≠ v.ownBlock) → w2.heap[i]? = w.heap[i]? := fun i hi => (hgr.block i (by omega) hi.2.2.2).trans (hB.block i hi.2.1)
    refine ⟨(h5.keep hh).more fun i hi => ⟨hi.1, by omega, hi.2.2.1.keep (hh i hi), fun e => ?_⟩, h6⟩
    rcases hat with h7 | h7
    · exact hi.2.2.2 (by rw [e, h7])
    · have e2 := Option.some.inj (e.trans h7); omega
  · obtain ⟨h5, h6⟩ := hp.deps x hx
    have hne : ∀ i, w.heap.size ≤ i → some i ≠ v.ownBlock := fun i hi e => by have := hvb i e; omega
    have hh : ∀ i, (w.heap.size ≤ i ∧ i < w1.heap.size ∧ CellsAt w1 i ∧ some i ≠ vp.ownBlock) → w2.heap[i]? = w1.heap[i]? := fun i hi => hgr.block i hi.2.1 (hne i hi.1)
    refine ⟨(h5.keep hh).more fun i hi => ⟨by omega, by omega, hi.2.2.1.keep (hh i hi), fun e => ?_⟩, h6⟩
    rcases hat with h7 | h7
    · exact hne i hi.1 (by rw [e, h7])
    · have e2 := Option.some.inj (e.trans h7); omega

set_option maxHeartbeats 1600000 in
set_option maxRecDepth 100000 in
theorem streamPieces_any (P : Nat → Prop) (A : Option Addr) (n c : Nat) (l : List En) (t a : Int) (S : Option Addr) (s cs : Nat) (zs : List Int) (w : World) (hl : RL w P A n l) (hP : ∀ i, P i → i < w.heap.size) (hn : n ≤ 9223372036854775807)
    (hS : RI w P S s zs) (hs : s ≤ 9223372036854775807) :
    Calls Try.prog 4 #[.slice A n c, .int .i64 t, .int .i64 a, .slice S s cs] w fun r w' => r = .returned (.bool true) ∧ Below w.heap.size w w' := by
  obtain ⟨KS, hKS⟩ : ∃ KS, KS = (l.map nkey).filter (kIs t a) := ⟨_, rfl⟩
  have hKl : (l.filter (readIs t a)).length = KS.length := by rw [hKS]; exact len_filter t a l
  obtain ⟨K, hK⟩ : ∃ K, K = KS.length := ⟨_, rfl⟩
  rw [← hK] at hKl
  have hK3 : K ≤ l.length := by rw [← hKl]; exact List.length_filter_le _ _
  have HKS := Lib.hid hKS
  have HK := Lib.hid hK
  have HKL := Lib.hid hKl
  clear hKS hK hKl
  obtain ⟨σ, hσ⟩ : ∃ σ, decide (100 < (s : Int)) = σ := ⟨_, rfl⟩
  go_enter Try.func4, Try.ntmps4
  go_wp2_with fail
  refine (long14_any P A n c l w hl hn).mono ?_
  rintro e _ ⟨β, rfl, hβ, q, rfl⟩
  obtain ⟨w0, hw0⟩ : ∃ W, W = w.drewN q := ⟨_, rfl⟩
  have b0 : Below w.heap.size w w0 := by rw [hw0]; exact below_drewN (Below.refl _ _) q
  have z0 : w.heap.size ≤ w0.heap.size := b0.size
  have L0 : RL w0 (fun i => i < w.heap.size) A n l := (hl.keep fun i hi => b0.block i (hP i hi)).more fun i hi => hP i hi
  have S0 : RI w0 (fun i => i < w.heap.size) S s zs := ⟨(Reads.keep hS.1 fun i hi => b0.block i (hP i hi)).more fun i hi => hP i hi, hS.2⟩
  rw [← hw0]
  have hln := L0.len
  clear hw0 hl hP hS
  rcases β with _ | _
  case true =>
    clear hβ hσ
    go_wp2_with fail
    refine (works14 w0).mono ?_
    rintro e w1 ⟨rfl, b1⟩
    have k1 := next_below b0 b1
    go_wp2
    go_ret
    exact ⟨rfl, k1⟩
  case false =>
    obtain ⟨h300, h100⟩ := hβ rfl
    have hf : ∀ r ∈ l, r.e.n ≤ 1099511627000 := fun r hr => by have := h100 r hr; omega
    have hn2 : n ≤ 1000000000 := by omega
    clear h100 hβ
    rcases σ with _ | _
    case true =>
      go_wp2_with fail
      refine (works14 w0).mono ?_
      rintro e w1 ⟨rfl, b1⟩
      have k1 := next_below b0 b1
      go_wp2
      go_ret
      exact ⟨rfl, k1⟩
    case false =>
      have hs100 : s ≤ 100 := by simp at hσ; omega
      have hmore : decide (0 + 1000 < (l.filter (readIs t a)).length) = false := by rw [HKL.out]; simp; omega
      have HMORE := Lib.hid hmore
      clear hmore
      go_wp2_with fail
      have HR := strRead_nat (fun i => i < w.heap.size) A n c l t a 0 1000 w0 L0 (fun i hi => by omega) hn2 hf
      refine HR.mono ?_
      rintro e w1 ⟨vw, nw, he, hkw, W1, b1⟩
      rw [HMORE.out] at he
      obtain rfl := he
      have hkw : nw.map nkey = KS := by
        rw [hkw, HKS.out, List.drop_zero]
        refine List.take_of_length_le ?_
        have := List.length_filter_le (fun k : ((Int × Int × Int) × List Int × (Int × Int × Int × Int × Int × Int)) × Bool × Int × Int => decide (k.1.2.2.1 = t) && decide (k.1.2.2.2.1 = a)) (l.map nkey)
        rw [List.length_map] at this
        omega
      have hlw : nw.length = K := by rw [HK.out, ← hkw, List.length_map]
      obtain ⟨Aw, cw, rfl, hcw, hcw2⟩ := W1.form
      rw [hlw] at hcw W1 ⊢
      have z1 := b1.size
      have k1 := next_below b0 b1
      have L1 : RL w1 (fun i => i < w.heap.size) A n l := L0.keep fun i hi => b1.block i (by omega)
      have S1 : RI w1 (fun i => i < w.heap.size) S s zs := S0.keep fun i hi => b1.block i (by omega)
      have HKW := Lib.hid hkw
      clear HR hkw hlw b0 b1 L0 S0 hσ
      obtain ⟨β, hsd⟩ : ∃ β, decide (0 < s) = β := ⟨_, rfl⟩
      have hsd2 : decide (0 < (s : Int)) = β := by rw [← hsd]; simp
      go_wp2_with fail
      go_loopw [11, 12] (fun v i wr => ∃ (k : Nat) (ns : List En), k ≤ ns.length ∧ ns.length ≤ K ∧ i = .int .i64 k ∧ ns.map nkey = KS.take ns.length ∧ Fresh wr w1.heap.size v ns ∧ Below w1.heap.size w1 wr) (fun _ i _ => K + 1 - (intOf i).toNat)
      case atStart => exact ⟨0, [], Nat.le_refl _, Nat.zero_le _, rfl, rfl, Fresh.nil _ _, Below.refl _ _⟩
      case round =>
        obtain ⟨k, ns, hkN, hNK, rfl, hkey, hF, hB⟩ := hrel
        obtain ⟨G, cg, rfl, hcg, hcg2, _⟩ := own_form hF.row
        obtain ⟨N, hN⟩ : ∃ N, N = ns.length := ⟨_, rfl⟩
        rw [← hN] at hkN hNK hcg hF hkey ⊢
        have HN := Lib.hid hN
        have HKEY := Lib.hid hkey
        have HF := Lib.hid hF
        have hzr := hB.size
        have Lr : RL wr (fun i => i < w.heap.size) A n l := L1.keep fun i hi => hB.block i (by omega)
        have Sr : RI wr (fun i => i < w.heap.size) S s zs := S1.keep fun i hi => hB.block i (by omega)
        have d0 : decide ((k : Int) ≤ (K : Int)) = true := by simp; omega
        have d0' : decide (k ≤ K) = true := by simp; omega
        clear hN hkey hF
        go_upto_if 40 with fail
        go_cut [13] from 41 to 49 (fun s13 wx => ∃ z : Nat, s13 = .int .i64 (z : Int) ∧ 1 ≤ z ∧ z ≤ 50 ∧ wr = wx)
        case first =>
          clear hsd2
          rcases β with _ | _
          · clear hsd
            go_wp2
            go_meet
            case rel => exact ⟨3, rfl, by decide, by decide, rfl⟩
          · have hs0 : 0 < s := of_decide_eq_true hsd
            clear hsd
            obtain ⟨b2, o2, x, rfl, _, _, hx1, hx2, hc5⟩ := Sr.cell (k := k % s) (Nat.mod_lt _ hs0)
            have hd2 : k % s < s := Nat.mod_lt _ hs0
            have hrem : (k : Int).tmod (s : Int) = ((k % s : Nat) : Int) := by rw [Int.tmod_eq_emod_of_nonneg (by omega)]; rfl
            have hrem2 : IntKind.i64.wrap ((k : Int).tmod (s : Int)) = ((k % s : Nat) : Int) := by rw [hrem]; exact IntWalk.i64_in _ (by omega)
            generalize k % s = d at *
            go_wp2_with fail
            refine (pick_pos x 50 wr (by decide) (by decide) hx1 hx2).mono ?_
            rintro e _ ⟨he, rfl⟩
            obtain ⟨y, hy, hy2⟩ := nat_of x 50 (by decide)
            rw [hy] at he
            obtain rfl := he
            clear hy hc5 hrem hrem2
            go_wp2
            go_meet
            case rel => exact ⟨1 + y, by go_num, by omega, by omega, rfl⟩
        case rest =>
          obtain ⟨z, rfl, hz1, hz2, rfl⟩ := hcut
          clear hsd hsd2 Sr
          go_wp2_with fail
          refine (strRead_nat (fun i => i < w.heap.size) A n c l t a N z wr Lr (fun i hi => by omega) hn2 hf).mono ?_
          rintro e w2 ⟨vp, np, he, hkp, P2, b2⟩
          rw [HKL.out] at he
          have hkp : np.map nkey = (KS.drop N).take z := by rw [hkp, HKS.out]; rfl
          have hlp : np.length = min z (K - N) := by
            have := congrArg List.length hkp
            rw [List.length_map, List.length_take, List.length_drop, ← HK.out] at this
            exact this
          obtain ⟨Ap, cp, rfl, hcp, hcp2⟩ := P2.form
          obtain ⟨x, hx⟩ : ∃ x, x = np.length := ⟨_, rfl⟩
          have hkx : np.map nkey = (KS.drop N).take x := by
            rw [hkp, List.take_eq_take_iff, List.length_drop, ← HK.out]; omega
          have hkall : (ns ++ np).map nkey = KS.take (N + x) := by
            rw [List.map_append, HKEY.out, hkx, List.take_add]
          rw [← hx] at hlp hcp P2 he
          have z2 := b2.size
          have hrow : w2.ownsRow w1.heap.size 39 13 (.slice G N cg) N (ns.flatMap nc) := by
            have := (HF.out.below b2).row
            rwa [← HN.out] at this
          have hB2 := hB.trans (b2.mono hzr)
          have hzz : w1.heap.size ≤ w2.heap.size := by omega
          have W2 := W1.below hB2 (Nat.le_refl _)
          have t1 : decide ((z : Int) < (x : Int)) = false := by simp; omega
          have t1' : decide (z < x) = false := by simp; omega
          have hx50 : x ≤ 50 := by omega
          have hNx : N + x ≤ K := by omega
          have hxl := P2.list.2
          have HX := Lib.hid hx
          have HKA := Lib.hid hkall
          have HB2 := Lib.hid hB2
          have HLP := Lib.hid hlp
          clear hx hkx hkp hkall hlp hB hB2 Lr
          by_cases hlt : N + z < K
          · have hxz : x = z := by have := HLP.out; omega
            have hd : decide (N + z < K) = true := by simp; omega
            rw [hd] at he
            obtain rfl := he
            have t2 : ((x : Int) != (z : Int)) = false := by simp [hxz]
            have t2' : (x != z) = false := by simp [hxz]
            have t3 : decide ((N : Int) + (x : Int) < (K : Int)) = true := by simp; omega
            have hx1 : 1 ≤ x := by omega
            have HXZ := Lib.hid hxz
            clear hd hxz
            go_wp2_with (at_builtin; (refine wpList_appN _ rfl _ _ 22 rfl w1.heap.size 39 (.agg (nc zeroEn).toArray) 13 120 Try.underlying22 infoEn rfl (by decide) _ N _ hrow rfl _ _ x cp _ P2.list.1.1 rfl (ncs_one _) (by omega) (by omega) hzz ?_); intro v4 w4 hown4 hgr4 hb4 hat4)
            have F4 : Fresh w4 w1.heap.size v4 (ns ++ np) := HF.out.app hzr b2 P2 (by rw [← HN.out, ← HX.out]; exact hown4) hgr4 hat4
            have hB4 := HB2.out.trans hb4
            have hl4 : (ns ++ np).length = N + x := by rw [List.length_append, ← HN.out, ← HX.out]
            have hk4 : (ns ++ np).map nkey = KS.take (ns ++ np).length := by rw [hl4]; exact HKA.out
            have hi4 : k + 1 ≤ (ns ++ np).length := by rw [hl4]; omega
            have hj4 : (ns ++ np).length ≤ K := by rw [hl4]; omega
            have HF4 := Lib.hid F4
            have HB4 := Lib.hid hB4
            have HK4 := Lib.hid hk4
            have HI4 := Lib.hid hi4
            have HJ4 := Lib.hid hj4
            clear F4 hB4 hl4 hk4 hi4 hj4 hown4 hgr4 hat4 hb4 hrow W2 P2
            go_wp2
            go_roundw
            case rel => exact ⟨k + 1, ns ++ np, HI4.out, HJ4.out, by go_num, HK4.out, HF4.out, HB4.out⟩
            case measure => simp [intOf]; omega
          · have hxz : N + x = K := by have := HLP.out; omega
            have hd : decide (N + z < K) = false := by simp; omega
            rw [hd] at he
            obtain rfl := he
            have t3 : decide ((N : Int) + (x : Int) < (K : Int)) = false := by simp; omega
            have HXZ := Lib.hid hxz
            clear hd hxz
            go_wp2_with (at_builtin; (refine wpList_appN _ rfl _ _ 22 rfl w1.heap.size 39 (.agg (nc zeroEn).toArray) 13 120 Try.underlying22 infoEn rfl (by decide) _ N _ hrow rfl _ _ x cp _ P2.list.1.1 rfl (ncs_one _) (by omega) (by omega) hzz ?_); intro v4 w4 hown4 hgr4 hb4 hat4)
            have F4 : Fresh w4 w1.heap.size v4 (ns ++ np) := HF.out.app hzr b2 P2 (by rw [← HN.out, ← HX.out]; exact hown4) hgr4 hat4
            have G4 := F4.inn
            have hB4 := HB2.out.trans hb4
            have kr := next_below k1 hB4
            have z4 := hb4.size
            have hl4 : (ns ++ np).length = K := by rw [List.length_append, ← HN.out, ← HX.out, HXZ.out]
            have hk4 : (ns ++ np).map nkey = nw.map nkey := by
              rw [HKA.out, HXZ.out, HKW.out]
              exact List.take_of_length_le (Nat.le_of_eq HK.out.symm)
            obtain ⟨Ag, c4, rfl, hc4, hc5⟩ := G4.form
            have W4 := W1.below hB4 (Nat.le_refl _)
            rw [hl4] at G4 hc4 ⊢
            have HK4 := Lib.hid hk4
            clear F4 hB4 hl4 hk4 hown4 hgr4 hat4 hb4 hrow W2 P2 k1
            go_wp2_with fail
            refine (same_in G4 W4 HK4.out (by omega) (by omega) (by omega)).mono ?_
            rintro e w5 ⟨rfl, b5⟩
            have k5 := next_below kr b5
            clear G4 W4 kr b5
            go_wp2_with fail
            refine (works14 w5).mono ?_
            rintro e w6 ⟨rfl, b6⟩
            have k6 := next_below k5 b6
            go_wp2
            go_ret
            exact ⟨rfl, k6⟩
end Go.Proofs.Ytcidmlpjobdakaa
