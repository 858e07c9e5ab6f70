/- StreamVoids. -/
import Derived.Test.YtcidmlpjobdakaaStG
namespace Go.Proofs.Ytcidmlpjobdakaa
set_option linter.unusedSimpArgs false
set_option linter.unusedVariables false
set_option linter.unnecessarySimpa false
open Go.RowKit

theorem filter_at {p : En → Bool} {l : List En} {k : Nat} {r : En} (h : l[k]? = some r) (hp : p r = true) : (l.filter p)[((l.take k).filter p).length]? = some r := by
  have h1 : l.filter p = (l.take k).filter p ++ (l.drop k).filter p := by rw [← List.filter_append, List.take_append_drop]
  have h2 : l.drop k = r :: l.drop (k + 1) := by
    obtain ⟨hk, e⟩ := List.getElem?_eq_some_iff.1 h
    rw [List.drop_eq_getElem_cons hk, e]
  rw [h1, List.getElem?_append_right (Nat.le_refl _), Nat.sub_self, h2, List.filter_cons_of_pos hp]
  rfl
theorem key_nth {xs ys : List En} (h : xs.map nkey = ys.map nkey) {k : Nat} {r : En} (hr : ys[k]? = some r) : ∃ s, xs[k]? = some s ∧ nkey s = nkey r := by
  have h1 := congrArg (fun l => l[k]?) h
  simp only [List.getElem?_map, hr, Option.map_some] at h1
  cases hx : xs[k]? with
  | none => rw [hx] at h1; cases h1
  | some s => rw [hx] at h1; exact ⟨s, rfl, Option.some.inj h1⟩
/-- One element of a list, as a list: where it lies. -/
theorem RL.one {w : World} {P : Nat → Prop} {b off n : Nat} {l : List En} {r : En} {k : Nat} (h : RL w P (some ⟨b, off, none⟩) n l) (hr : l[k]? = some r) : RL w P (some ⟨b, off + k * 13, none⟩) 1 [r] := by
  have hk : k < l.length := (List.getElem?_eq_some_iff.1 hr).1
  have hl := h.len
  have h1 := RL.mid (cap := n + 1) h (a := k) (b := k + 1) (by omega) (by omega) (by omega)
  rw [if_neg (by omega)] at h1
  have e1 : (some ⟨b, off, none⟩ : Option Addr).map (·.add (k * 13)) = some ⟨b, off + k * 13, none⟩ := by
    show some ((⟨b, off, none⟩ : Addr).add (k * 13)) = _
    congr 1
    unfold Addr.add; split <;> simp_all
  have e2 : (l.drop k).take (k + 1 - k) = [r] := by
    obtain ⟨hk, e⟩ := List.getElem?_eq_some_iff.1 hr
    rw [List.drop_eq_getElem_cons hk, e, show k + 1 - k = 1 by omega]
    rfl
  rw [e1, e2, show k + 1 - k = 1 by omega] at h1
  exact h1

set_option maxHeartbeats 1600000 in
set_option maxRecDepth 100000 in
theorem streamVoids_any (P : Nat → Prop) (A : Option Addr) (n c : Nat) (l : List En) (w : World) (hl : RL w P A n l) (hP : ∀ i, P i → i < w.heap.size) (hn : n ≤ 9223372036854775807) (hnc : n ≤ c) (hc63 : c ≤ 9223372036854775807) :
    Calls Try.prog 6 #[.slice A n c] w fun r w' => r = .returned (.bool true) ∧ Below w.heap.size w w' := by
  go_enter Try.func6, Try.ntmps6
  go_wp2_with fail
  refine (long14_any P A n c l w hl hn).mono ?_
  rintro e _ ⟨β, rfl, hβ, q, rfl⟩
  obtain ⟨w0, hw0⟩ : ∃ W, W = w.drewN q := ⟨_, rfl⟩
  have b0 : Below w.heap.size w w0 := by rw [hw0]; exact below_drewN (Below.refl _ _) q
  have z0 : w.heap.size ≤ w0.heap.size := b0.size
  have L0 : RL w0 (fun i => i < w.heap.size) A n l := (hl.keep fun i hi => b0.block i (hP i hi)).more fun i hi => hP i hi
  rw [← hw0]
  have hln := L0.len
  clear hw0 hl hP
  rcases β with _ | _
  case true =>
    clear hβ
    go_wp2_with fail
    refine (works14 w0).mono ?_
    rintro e w1 ⟨rfl, b1⟩
    have k1 := next_below b0 b1
    go_wp2
    go_ret
    exact ⟨rfl, k1⟩
  case false =>
    obtain ⟨h300, h100⟩ := hβ rfl
    have hf : ∀ r ∈ l, r.e.n ≤ 1099511627000 := fun r hr => by have := h100 r hr; omega
    have hn2 : n ≤ 1000000000 := by omega
    clear h100 hβ
    go_wp2_with fail
    refine (strVoided_any (fun i => i < w.heap.size) A n c l w0 L0 (fun i hi => by omega) hn2 hf).mono ?_
    rintro e w1 ⟨v, nv, rfl, hkv, FV, b1⟩
    have V1 := FV.inn
    obtain ⟨Av, cv, rfl, hcv, hcv2⟩ := V1.form
    have hKv : nv.length = (l.filter voidIs).length := len_keys hkv
    have hKn : nv.length ≤ n := by have := List.length_filter_le voidIs l; omega
    obtain ⟨K, hK⟩ : ∃ K, K = nv.length := ⟨_, rfl⟩
    rw [← hK] at hcv V1 hKv hKn ⊢
    have z1 := b1.size
    have k1 := next_below b0 b1
    have L1 : RL w1 (fun i => i < w.heap.size) A n l := L0.keep fun i hi => b1.block i (by omega)
    have HKV := Lib.hid hkv
    have HKL := Lib.hid hKv
    have HKK := Lib.hid hK
    clear FV hkv hKv hK b0 b1 L0
    go_wp2
    go_loopw [4, 5] (fun s4 s5 wr => ∃ k : Nat, k ≤ n ∧ s5 = .int .i64 k ∧ s4 = .int .i64 (((l.take k).filter voidIs).length : Nat) ∧ Below w1.heap.size w1 wr) (fun _ i _ => n - (intOf i).toNat)
    case atStart => exact ⟨0, by omega, rfl, rfl, Below.refl _ _⟩
    case round =>
      obtain ⟨k, hk, rfl, hs4, hB⟩ := hrel
      obtain ⟨M, hM⟩ : ∃ M, M = ((l.take k).filter voidIs).length := ⟨_, rfl⟩
      rw [← hM] at hs4
      obtain rfl := hs4
      have hzr := hB.size
      have Lr : RL wr (fun i => i < w.heap.size) A n l := L1.keep fun i hi => hB.block i (by omega)
      have hMk : M ≤ k := by
        have h2 := List.length_filter_le voidIs (l.take k)
        rw [List.length_take] at h2
        omega
      by_cases hlt : k < n
      · obtain ⟨b, off, r, hAe, hPb, hr, er, hcl⟩ := Lr.cell hlt
        subst hAe
        have hki : (k : Int) < (n : Int) := by omega
        have hk0 : (0 : Int) ≤ (k : Int) := by omega
        have hts := take_filter_succ voidIs l k r hr
        have x10 := hcl 10 _ rfl
        have x11 := hcl 11 _ rfl
        have x12 := hcl 12 _ rfl
        have HM := Lib.hid hM
        have HTS := Lib.hid hts
        have HB := Lib.hid hB
        have HR := Lib.hid hr
        clear hts hM hcl er hB hr
        obtain ⟨vd, hvd⟩ : ∃ vd, vd = r.void := ⟨_, rfl⟩
        rw [← hvd] at x10
        cases vd with
        | false =>
          have hno : voidIs r = false := by unfold voidIs; rw [← hvd]; rfl
          rw [hno] at HTS
          have HNO := Lib.hid hno
          clear hno hvd
          go_wp2
          go_roundw
          case rel => exact ⟨k + 1, by omega, by go_num, by rw [HTS.out, HM.out]; simp, HB.out⟩
          case measure => simp [intOf]; omega
        | true =>
          have hid : ∀ W, (Op.equalIn 10000 35 (.agg #[.int .i64 r.y0, .int .i64 r.y1]) (.agg #[.int .i64 0, .int .i64 0])).run Try.prog W = .ok (decide (r.y0 = 0) && decide (r.y1 = 0)) W := fun W => equalIdAny r.y0 r.y1 0 0 W
          obtain ⟨β, hβ⟩ : ∃ β : Bool, β = (decide (r.y0 = 0) && decide (r.y1 = 0)) := ⟨_, rfl⟩
          have hv2 : voidIs r = !β := by rw [hβ]; unfold voidIs; rw [← hvd]; rfl
          rw [← hβ] at hid
          rw [hv2] at HTS
          clear hβ hvd
          cases β with
          | true =>
            have HV2 := Lib.hid hv2
            clear hv2
            go_wp2
            go_roundw
            case rel => exact ⟨k + 1, by omega, by go_num, by rw [HTS.out, HM.out]; simp, HB.out⟩
            case measure => simp [intOf]; omega
          | false =>
            have hat := filter_at HR.out (show voidIs r = true from hv2)
            rw [← HM.out] at hat
            obtain ⟨s, hs, hks⟩ := key_nth HKV.out hat
            have hMK : M < K := by
              rw [HKK.out]
              exact (List.getElem?_eq_some_iff.1 hs).1
            have Vr := V1.below HB.out (Nat.le_refl _)
            obtain ⟨gv, cv', ev, _, _, hgv, _⟩ := own_at Vr.row (by rw [← HKK.out]; omega)
            injection ev with ev e2 e3
            clear e2 e3
            subst ev
            have one1 := Vr.list.1.one hs
            have one2 := Lr.one HR.out
            rw [Nat.zero_add] at one1
            obtain ⟨ι, W, hne, hW0, hWB, hWall⟩ := family wr.heap.size wr
            have O1 := Lib.hid fun m => one1.keep fun i hi => (hWB m).block i (by omega)
            have O2 := Lib.hid fun m => one2.keep fun i hi => (hWB m).block i (by omega)
            have HWB := Lib.hid hWB
            have HWall := Lib.hid hWall
            have hz2 : ∀ m, wr.heap.size ≤ (W m).heap.size := fun m => (hWB m).size
            have HP1 := Lib.hid (show ∀ m i, (w0.heap.size ≤ i ∧ i < w1.heap.size) → i < (W m).heap.size from fun m i hi => by have := hz2 m; omega)
            have HP2 := Lib.hid (show ∀ m i, i < w.heap.size → i < (W m).heap.size from fun m i hi => by have := hz2 m; omega)
            have HKS := Lib.hid hks
            have d1 : decide ((K : Int) ≤ (M : Int)) = false := by simp; omega
            have d1' : decide (K ≤ M) = false := by simp; omega
            have n1 : ¬ cv = M := by omega
            have n2 : ¬ c = k := by omega
            clear hat hs one1 one2 hWB hWall hz2 hks Vr
            go_upto_region 9 with fail
            clear hid x10 x11 x12
            refine wp_region_family (by kernel_rfl) (by kernel_rfl) hW0 ?_
            repeat (go_big_quiet_step ((go_at_call 20; exact calls_family (sameEntries_yes _ _ _ 1 _ [s] _ _ [r] _ (O1.out _) (O2.out _) (by rw [List.map_singleton, List.map_singleton, HKS.out]) (HP1.out _) (HP2.out _) (by decide)) HWB.out (Nat.le_refl _) HWall.out)))
            refine wpQuiet_nil ?_
            rintro _ ⟨nq, rfl⟩
            have B2 := Lib.hid (HB.out.trans ((HWB.out nq).mono hzr))
            have HV2 := Lib.hid hv2
            clear hv2 hne hW0
            go_wp2
            go_roundw
            case rel => exact ⟨k + 1, by omega, by go_num, by rw [HTS.out, HM.out]; simp, B2.out⟩
            case measure => simp [intOf]; omega
      · obtain rfl : k = n := by omega
        rw [List.take_of_length_le (by omega), ← HKL.out] at hM
        subst hM
        have Vr := V1.below hB (Nat.le_refl _)
        have kr := next_below k1 hB
        clear L1 V1 k1 hB
        go_wp2_with fail
        refine (strVoided_any _ Av M cv nv wr Vr.list.1 (fun i hi => by omega) (by omega) Vr.fits).mono ?_
        rintro e w2 ⟨v2, n2, rfl, hk2, F2, b2⟩
        have V2 := F2.inn
        have z2 := b2.size
        have Vr2 := Vr.below b2 (by omega)
        obtain ⟨A2, c2, rfl, hc2, hc3⟩ := V2.form
        have k2 := next_below kr b2
        have hkk : n2.map nkey = nv.map nkey := by
          rw [hk2, filter_keys voidIs_key HKV.out, List.filter_filter, HKV.out]
          simp
        have hl2 := V2.list.2
        have HKK2 := Lib.hid hkk
        clear Vr F2 Lr kr b2 hk2 hkk
        go_wp2_with fail
        refine (same_in V2 Vr2 HKK2.out (by omega) (by omega) (by omega)).mono ?_
        rintro e w3 ⟨rfl, b3⟩
        have k3 := next_below k2 b3
        clear V2 Vr2 k2 b3
        go_wp2_with fail
        refine (works14 w3).mono ?_
        rintro e w4 ⟨rfl, b4⟩
        have k4 := next_below k3 b4
        go_wp2
        go_ret
        exact ⟨rfl, k4⟩
end Go.Proofs.Ytcidmlpjobdakaa
