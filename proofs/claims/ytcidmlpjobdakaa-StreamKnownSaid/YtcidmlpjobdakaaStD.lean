/- The document's Read. -/
import Derived.Test.YtcidmlpjobdakaaStC
namespace Go.Proofs.Ytcidmlpjobdakaa
set_option linter.unusedSimpArgs false
set_option linter.unusedVariables false
set_option linter.unnecessarySimpa false
open Go.RowKit

set_option maxHeartbeats 3200000 in
set_option maxRecDepth 100000 in
theorem refRead_any (P : Nat → Prop) (A : Option Addr) (n c : Nat) (l : List En) (t a f mo : Int) (w : World) (hb : RL w P A n l) (hP : ∀ i, P i → i < w.heap.size) (hn : n ≤ 1000000000) (hf : ∀ r ∈ l, r.e.n ≤ 1099511627000) :
    Calls Try.prog 18 #[.slice A n c, .int .i64 t, .int .i64 a, .int .i64 f, .int .i64 mo] w fun e w' => ∃ v ns, e = .returned (.tuple #[v, .bool (decide (f.toNat + mo.toNat < (l.filter (readIs t a)).length))]) ∧ ns.map nkey = (((l.filter (readIs t a)).drop f.toNat).take mo.toNat).map nkey ∧ Fresh w' w.heap.size v ns ∧ Below w.heap.size w w' := by
  obtain ⟨F, hFF⟩ : ∃ F, F = f.toNat := ⟨_, rfl⟩
  rw [← hFF]
  have HFF := Lib.hid hFF
  clear hFF
  obtain ⟨X, hX⟩ : ∃ X, X = l.filter (readIs t a) := ⟨_, rfl⟩
  have hXl : ∀ r ∈ X, r ∈ l := fun r hr => by rw [hX] at hr; exact (List.mem_filter.1 hr).1
  rw [← hX]
  obtain ⟨K, hK⟩ : ∃ K, K = X.length := ⟨_, rfl⟩
  have hKn : K ≤ 1000000000 := by
    have := List.length_filter_le (readIs t a) l
    have := hb.len
    rw [hK, hX]; omega
  rw [← hK]
  have HX := Lib.hid hX
  have HKK := Lib.hid hK
  have HXL := Lib.hid hXl
  clear hX hK hXl
  go_enter Try.func18, Try.ntmps18
  go_wp2
  go_loopw [12, 13] (fun v i wr => ∃ k : Nat, k ≤ n ∧ i = .int .i64 k ∧ wr.ownsRow w.heap.size 39 13 v ((l.take k).filter (readIs t a)).length (((l.take k).filter (readIs t a)).flatMap nc) ∧ Below w.heap.size w wr) (fun _ i _ => n - (intOf i).toNat)
  case atStart => exact ⟨0, by omega, rfl, World.ownsRow_nil _ _ _ _, Below.refl _ _⟩
  case round =>
    obtain ⟨k, hk, rfl, hown, hB⟩ := hrel
    by_cases hlt : k < n
    · obtain ⟨b, off, r, rfl, hPb, hr, er, hc⟩ := (hb.keep fun i hi => hB.block i (hP i hi)).cell hlt
      have hki : (k : Int) < (n : Int) := by omega
      have hk0 : (0 : Int) ≤ (k : Int) := by omega
      have hsz := hB.size
      have hts := take_filter_succ (readIs t a) l k r hr
      have hnl : ((l.take k).filter (readIs t a)).length ≤ k := by
        have h2 := List.length_filter_le (readIs t a) (l.take k)
        rw [List.length_take] at h2
        omega
      obtain ⟨⟨a0, a1, a2, A1, n1, c1, ds, b0, b1, b2, b3, b4, b5⟩, void, u0, u1⟩ := r
      have x0 := hc 0 _ rfl
      have x1 := hc 1 _ rfl
      have x2 := hc 2 _ rfl
      have x3 := hc 3 _ rfl
      have x4 := hc 4 _ rfl
      have x5 := hc 5 _ rfl
      have x6 := hc 6 _ rfl
      have x7 := hc 7 _ rfl
      have x8 := hc 8 _ rfl
      have x9 := hc 9 _ rfl
      have x10 := hc 10 _ rfl
      have x11 := hc 11 _ rfl
      have x12 := hc 12 _ rfl
      rw [Nat.add_zero] at x0
      have HTS := Lib.hid hts
      have HO := Lib.hid hown
      clear hr hc hts er hown
      by_cases h1 : b0 = t
      · have d1 : (b0 == t) = true := by simp [h1]
        by_cases h2 : b1 = a
        · have d2 : (b1 == a) = true := by simp [h2]
          have hyes : readIs t a ⟨⟨a0, a1, a2, A1, n1, c1, ds, b0, b1, b2, b3, b4, b5⟩, void, u0, u1⟩ = true := by simp [readIs, h1, h2]
          rw [hyes] at HTS
          have HR := HTS.out
          rw [if_pos rfl] at HR
          have HR := Lib.hid HR
          obtain ⟨M, hM⟩ : ∃ M, M = ((l.take k).filter (readIs t a)).length := ⟨_, rfl⟩
          have hown := HO.out
          rw [← hM] at hown hnl
          have HM := Lib.hid hM
          clear h1 h2 hyes hM HO HTS
          go_wp2_with (at_builtin; (refine wpList_app1 wr #[.int .i64 a0, .int .i64 a1, .int .i64 a2, .slice A1 n1 c1, .int .i64 b0, .int .i64 b1, .int .i64 b2, .int .i64 b3, .int .i64 b4, .int .i64 b5, .bool void, .int .i64 u0, .int .i64 u1] rfl _ _ 22 rfl w.heap.size 39 (.agg (nc zeroEn).toArray) 13 120 Try.underlying22 infoEn rfl (by decide) _ M _ hown rfl rfl rfl (fun u hu => ncs_one [⟨⟨a0, a1, a2, A1, n1, c1, ds, b0, b1, b2, b3, b4, b5⟩, void, u0, u1⟩] u (by simpa [nc] using hu)) (by omega) (by omega) hsz ?_; intro g cap w4 hown4 _ hb4 _ _))
          have hO4 : w4.ownsRow w.heap.size 39 13 (.slice (some ⟨g, 0, none⟩) (M + 1) cap) ((l.take (k + 1)).filter (readIs t a)).length (((l.take (k + 1)).filter (readIs t a)).flatMap nc) := by
            rw [HR.out, ncs_append, List.length_append, ← HM.out, List.length_singleton]
            exact hown4
          have hB4 := hB.trans hb4
          have HO4 := Lib.hid hO4
          have HB4 := Lib.hid hB4
          clear hO4 hB4 hown hown4 hb4 hB
          go_wp2
          go_roundw
          case rel => exact ⟨k + 1, by omega, by go_num, HO4.out, HB4.out⟩
          case measure => simp [intOf]; omega
        · have d2 : (b1 == a) = false := by simp [h2]
          have hno : readIs t a ⟨⟨a0, a1, a2, A1, n1, c1, ds, b0, b1, b2, b3, b4, b5⟩, void, u0, u1⟩ = false := by simp [readIs, h2]
          rw [hno] at HTS
          have HB := Lib.hid hB
          clear h1 h2 hno hB
          go_wp2
          go_roundw
          case rel => exact ⟨k + 1, by omega, by go_num, by rw [HTS.out]; simpa using HO.out, HB.out⟩
          case measure => simp [intOf]; omega
      · have d1 : (b0 == t) = false := by simp [h1]
        have hno : readIs t a ⟨⟨a0, a1, a2, A1, n1, c1, ds, b0, b1, b2, b3, b4, b5⟩, void, u0, u1⟩ = false := by simp [readIs, h1]
        rw [hno] at HTS
        have HB := Lib.hid hB
        clear h1 hno hB
        go_wp2
        go_roundw
        case rel => exact ⟨k + 1, by omega, by go_num, by rw [HTS.out]; simpa using HO.out, HB.out⟩
        case measure => simp [intOf]; omega
    · obtain rfl : k = n := by omega
      rw [List.take_of_length_le (Nat.le_of_eq hb.len)] at hown
      rw [← HX.out, ← HKK.out] at hown
      have hXl := HXL.out
      obtain ⟨AX, cX, rfl, hcX, hcX2, _⟩ := own_form hown
      have hRX : RL wr (fun i => i < wr.heap.size) AX K X := ⟨(own_reads hown).more fun i hi => hi.2, fun r hr => ((hb.2 r (hXl r hr)).keep fun i hi => hB.block i (hP i hi)).more fun i hi => Nat.lt_of_lt_of_le (hP i hi) hB.size⟩
      have hXf : ∀ r ∈ X, r.e.n ≤ 1099511627000 := fun r hr => hf r (hXl r hr)
      obtain ⟨w1, hw1⟩ : ∃ w1, w1 = wr := ⟨_, rfl⟩
      rw [← hw1] at hRX hB ⊢
      clear hw1 hXl hown hb hf
      go_upto_if 48 with fail
      go_cut [3] from 47 to 48 (fun s3 wx => s3 = .int .i64 (F : Int) ∧ w1 = wx)
      case first =>
        by_cases hneg : f < 0
        · have e0 : F = 0 := by have := HFF.out; omega
          go_wp2
          go_meet
          case rel => exact ⟨by rw [e0]; rfl, rfl⟩
        · have e0 : (F : Int) = f := by have := HFF.out; omega
          have E0 := Lib.hid e0
          clear e0
          go_wp2
          go_meet
          case rel => exact ⟨by rw [E0.out], rfl⟩
      case rest =>
        obtain ⟨rfl, rfl⟩ := hcut
        go_wp2
        go_loopw [14, 15] (fun v i wr => ∃ (m : Nat) (ns : List En), F ≤ m ∧ (m ≤ K ∨ m = F) ∧ m - F ≤ mo.toNat ∧ i = .int .i64 m ∧ ns.map nkey = ((X.drop F).take (m - F)).map nkey ∧ Fresh wr w1.heap.size v ns ∧ Below w1.heap.size w1 wr) (fun _ i _ => K - (intOf i).toNat)
        case atStart => exact ⟨F, [], Nat.le_refl _, .inr rfl, by omega, rfl, by simp, Fresh.nil _ _, Below.refl _ _⟩
        case round =>
          obtain ⟨m, ns, hFm, hmK, hmm, rfl, hkey, hF, hB1⟩ := hrel
          have hnl : ns.length = m - F := by
            have h0 := congrArg List.length hkey
            simp only [List.length_map, List.length_take, List.length_drop] at h0
            have := HKK.out
            omega
          obtain ⟨M, hM⟩ : ∃ M, M = ns.length := ⟨_, rfl⟩
          obtain ⟨A2, c2, rfl, hc1, hc2, _⟩ := own_form hF.row
          rw [← hM] at hF hc1 hnl ⊢
          have HKEY := Lib.hid hkey
          have HM := Lib.hid hM
          have hnl1 : M + F ≤ m := by omega
          have hnl2 : m ≤ M + F := by omega
          clear hkey hM hnl
          by_cases h1 : m < K
          · have d1 : decide ((m : Int) < (K : Int)) = true := by simp; omega
            have d1' : decide (m < K) = true := by simp; omega
            by_cases h2 : (M : Int) < mo
            · have d2 : decide ((M : Int) < mo) = true := by simp; omega
              obtain ⟨b, off, r, hAX, hPb, hr, er, hc⟩ := (hRX.keep fun i hi => hB1.block i hi).cell h1
              subst hAX
              have hm1 : (m : Int) < (K : Int) := by omega
              have hm0 : (0 : Int) ≤ (m : Int) := by omega
              have hsz := hB1.size
              have hfr := hXf r (List.mem_of_getElem? hr)
              have hPr : ∀ i, i < w1.heap.size → i < wr.heap.size := fun i hi => by omega
              have hts : (X.drop F).take (m + 1 - F) = (X.drop F).take (m - F) ++ [r] := by
                rw [show m + 1 - F = (m - F) + 1 by omega]
                exact take_succ_get _ _ _ (by rw [List.getElem?_drop, show F + (m - F) = m by omega]; exact hr)
              obtain ⟨⟨a0, a1, a2, A1, n1, c1, ds, b0, b1, b2, b3, b4, b5⟩, void, u0, u1⟩ := r
              have x0 := hc 0 _ rfl
              have x1 := hc 1 _ rfl
              have x2 := hc 2 _ rfl
              have x3 := hc 3 _ rfl
              have x4 := hc 4 _ rfl
              have x5 := hc 5 _ rfl
              have x6 := hc 6 _ rfl
              have x7 := hc 7 _ rfl
              have x8 := hc 8 _ rfl
              have x9 := hc 9 _ rfl
              have x10 := hc 10 _ rfl
              have x11 := hc 11 _ rfl
              have x12 := hc 12 _ rfl
              rw [Nat.add_zero] at x0
              have HTS := Lib.hid hts
              have HF := Lib.hid hF
              clear hr hc hts hF
              go_wp2_with fail
              refine (refCopyOf_any ⟨⟨a0, a1, a2, A1, n1, c1, ds, b0, b1, b2, b3, b4, b5⟩, void, u0, u1⟩ (fun i => i < w1.heap.size) wr er hPr hfr).mono ?_
              rintro e w2 ⟨r', rfl, hkr, her, hen, k3⟩
              have hkr' := Lib.hid hkr
              have her' : EvR w2 (New wr w2) r'.e := her
              have hen' : r'.e.n ≤ 1099511627000 := by rw [hen]; exact hfr
              have hF := HF.out
              have z2 := k3.size
              have hz3 : w1.heap.size ≤ w2.heap.size := by omega
              have hrow : w2.ownsRow w1.heap.size 39 13 (.slice A2 M c2) M (ns.flatMap nc) := by
                have := (hF.below k3).row
                rwa [← HM.out] at this
              have hN2 : M ≤ 1000000000 := by omega
              have HER := Lib.hid her'
              clear hkr her hen her' hF z2
              simp only [nc]
              go_wp2_with (at_builtin; (refine wpList_app1 w2 #[.int .i64 r'.e.a0, .int .i64 r'.e.a1, .int .i64 r'.e.a2, .slice r'.e.A r'.e.n r'.e.c, .int .i64 r'.e.b0, .int .i64 r'.e.b1, .int .i64 r'.e.b2, .int .i64 r'.e.b3, .int .i64 r'.e.b4, .int .i64 r'.e.b5, .bool r'.void, .int .i64 r'.y0, .int .i64 r'.y1] rfl _ _ 22 rfl w1.heap.size 39 (.agg (nc zeroEn).toArray) 13 120 Try.underlying22 infoEn rfl (by decide) _ M _ hrow rfl rfl rfl (fun u hu => ncs_one [r'] u (by simpa [nc] using hu)) (by omega) (by omega) hz3 ?_; intro g cap w4 hown4 hgr4 hb4 hat4 _))
              have hF4 : Fresh w4 w1.heap.size (.slice (some ⟨g, 0, none⟩) (M + 1) cap) (ns ++ [r']) := by
                have := HF.out.push (r := r') (g := g) (cap := cap) (w2 := w4) hsz k3 HER.out hen' (by rw [← HM.out]; exact hown4) hgr4 hat4
                rwa [← HM.out] at this
              have HF4 := Lib.hid hF4
              have hB4 := hB1.trans ((k3.mono hsz).trans hb4)
              have HB4 := Lib.hid hB4
              have hkk : (ns ++ [r']).map nkey = ((X.drop F).take (m + 1 - F)).map nkey := by rw [HTS.out, List.map_append, HKEY.out, List.map_append]; simp [hkr'.out]
              have HKK2 := Lib.hid hkk
              clear hF4 hB4 hrow hown4 hgr4 hb4 hat4 hB1 hkk
              go_wp2
              go_roundw
              case rel => exact ⟨m + 1, _, by omega, .inl (by omega), by omega, by go_num, HKK2.out, HF4.out, HB4.out⟩
              case measure => simp [intOf]; omega
            · have d2 : decide ((M : Int) < mo) = false := by simp; omega
              have d3 : decide ((F : Int) < (K : Int)) = true := by simp; omega
              have d3' : decide (F < K) = true := by simp; omega
              have d4 : decide ((M : Int) < (K : Int) - (F : Int)) = true := by simp; omega
              have hmore : decide (F + mo.toNat < K) = true := by simp; omega
              have hke : ns.map nkey = ((X.drop F).take mo.toNat).map nkey := by rw [HKEY.out, show m - F = mo.toNat by omega]
              have HMO := Lib.hid hmore
              have HKE := Lib.hid hke
              have HF := Lib.hid (hF.base hB.size)
              have HB2 := Lib.hid (hB.trans (hB1.mono hB.size))
              clear hke hmore hF hB1 hRX hB
              go_wp2
              go_ret2
              first | exact ⟨.slice A2 M c2, ns, by rw [HMO.out]; rfl, HKE.out, HF.out, HB2.out⟩ | exact ⟨.slice A2 M c2, by rw [HMO.out]; rfl, ns, by rw [HKE.out, List.map_take, List.map_drop], HF.out, HB2.out⟩
          · have d1 : decide ((m : Int) < (K : Int)) = false := by simp; omega
            have d1' : decide (m < K) = false := by simp; omega
            have hmore : decide (F + mo.toNat < K) = false := by simp; omega
            have hke : ns.map nkey = ((X.drop F).take mo.toNat).map nkey := by
              rw [HKEY.out, List.take_of_length_le (by rw [List.length_drop, ← HKK.out]; omega), List.take_of_length_le (by rw [List.length_drop, ← HKK.out]; omega)]
            have HMO := Lib.hid hmore
            have HKE := Lib.hid hke
            have HF := Lib.hid (hF.base hB.size)
            have HB2 := Lib.hid (hB.trans (hB1.mono hB.size))
            clear hke hmore hF hB1 hRX hB
            by_cases h3 : F < K
            · have d3 : decide ((F : Int) < (K : Int)) = true := by simp; omega
              have d3' : decide (F < K) = true := by simp; omega
              have d4 : decide ((M : Int) < (K : Int) - (F : Int)) = false := by simp; omega
              go_wp2
              go_ret2
              exact ⟨.slice A2 M c2, ns, by rw [HMO.out]; rfl, HKE.out, HF.out, HB2.out⟩
            · have d3 : decide ((F : Int) < (K : Int)) = false := by simp; omega
              have d3' : decide (F < K) = false := by simp; omega
              go_wp2
              go_ret2
              exact ⟨.slice A2 M c2, ns, by rw [HMO.out]; rfl, HKE.out, HF.out, HB2.out⟩
end Go.Proofs.Ytcidmlpjobdakaa
