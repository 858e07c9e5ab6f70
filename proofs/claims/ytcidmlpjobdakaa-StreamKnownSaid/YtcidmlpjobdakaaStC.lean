/- The document's Read and Voided; Long (14). -/
import Derived.Test.YtcidmlpjobdakaaStB
namespace Go.Proofs.Ytcidmlpjobdakaa
set_option linter.unusedSimpArgs false
set_option linter.unusedVariables false
set_option linter.unnecessarySimpa false
open Go.RowKit

set_option maxHeartbeats 800000 in
theorem long14_any (P : Nat → Prop) (A : Option Addr) (n c : Nat) (l : List En) (w : World) (hb : RL w P A n l) (hn : n ≤ 9223372036854775807) :
    Calls Try.prog 14 #[.slice A n c] w fun r w' => ∃ β : Bool, r = .returned (.bool β) ∧ (β = false → n ≤ 300 ∧ ∀ e ∈ l, e.e.n ≤ 100) ∧ ∃ q, w' = w.drewN q := by
  go_enter Try.func14, Try.ntmps14
  go_wp2
  go_loopw [3] (fun i wr => ∃ k q : Nat, k ≤ n ∧ i = .int .i64 k ∧ wr = w.drewN q ∧ ∀ (j : Nat) (e : En), j < k → l[j]? = some e → e.e.n ≤ 100) (fun i _ => n - (intOf i).toNat)
  case atStart => exact ⟨0, 0, by omega, rfl, rfl, fun j e hj => by omega⟩
  case round =>
    obtain ⟨k, q, hk, rfl, rfl, hall⟩ := hrel
    have HA := Lib.hid hall
    clear hall
    by_cases hlt : k < n
    · obtain ⟨b, off, r, rfl, _, hr, er, hc⟩ := RL.cell (w := w.drewN q) hb hlt
      have c3 := hc 3 _ rfl
      have hk1 : (k : Int) < (n : Int) := by omega
      have hk0 : (0 : Int) ≤ (k : Int) := by omega
      have HR := Lib.hid hr
      clear hr hc er
      by_cases h8 : 100 < r.e.n
      · have d8 : decide (100 < (r.e.n : Int)) = true := by simp; omega
        go_wp2
        go_ret
        exact ⟨true, rfl, (fun h => by cases h), _, rfl⟩
      · have d8 : decide (100 < (r.e.n : Int)) = false := by simp; omega
        go_wp2
        go_roundw
        case rel => exact ⟨k + 1, q, by omega, by go_num, rfl, fun j e hj he => by
          by_cases hjk : j = k
          · subst hjk
            rw [HR.out] at he
            cases he
            omega
          · exact HA.out j e (by omega) he⟩
        case measure => simp [intOf]; omega
    · obtain rfl : k = n := by omega
      have HLEN := Lib.hid hb.len
      by_cases h3 : 300 < k
      · have d0 : decide (300 < (k : Int)) = true := by simp; omega
        go_wp2
        go_ret
        exact ⟨true, rfl, (fun h => by cases h), _, rfl⟩
      · have d0 : decide (300 < (k : Int)) = false := by simp; omega
        go_wp2
        go_ret
        refine ⟨false, rfl, fun _ => ⟨by omega, fun e he => ?_⟩, _, rfl⟩
        obtain ⟨j, hj, hje⟩ := List.getElem_of_mem he
        exact HA.out j e (by rw [← HLEN.out]; exact hj) (by rw [List.getElem?_eq_getElem hj, hje])

theorem take_filter_succ (p : En → Bool) (l : List En) (k : Nat) (r : En) (h : l[k]? = some r) : (l.take (k + 1)).filter p = (l.take k).filter p ++ (if p r then [r] else []) := by
  rw [take_succ_get l k r h, List.filter_append]
  by_cases hp : p r = true
  · simp [hp]
  · simp [hp]

theorem Fresh.dn {w : World} {n₀ : Nat} {v : Value} {ns : List En} (h : Fresh w n₀ v ns) (q : Nat) : Fresh (w.drewN q) n₀ v ns := ⟨h.row, h.deps⟩

set_option maxHeartbeats 1600000 in
set_option maxRecDepth 100000 in
theorem refVoided_any (P : Nat → Prop) (A : Option Addr) (n c : Nat) (l : List En) (w : World) (hb : RL w P A n l) (hP : ∀ i, P i → i < w.heap.size) (hn : n ≤ 1000000000) (hf : ∀ r ∈ l, r.e.n ≤ 1099511627000) :
    Calls Try.prog 21 #[.slice A n c] w fun e w' => ∃ v ns, e = .returned v ∧ ns.map nkey = (l.filter voidIs).map nkey ∧ Fresh w' w.heap.size v ns ∧ Below w.heap.size w w' := by
  have hzb : Below w.heap.size w (w.alloc (.cells #[.int .i64 0, .int .i64 0] 35)) := (Below.refl _ _).alloc (Nat.le_refl _) _
  go_enter Try.func21, Try.ntmps21
  go_wp2
  go_loopw [3, 5] (fun v i wr => ∃ (k : Nat) (ns : List En), k ≤ n ∧ i = .int .i64 k ∧ ns.map nkey = ((l.take k).filter voidIs).map nkey ∧ Fresh wr w.heap.size v ns ∧ Below w.heap.size w wr ∧ (wr.cell? ⟨w.heap.size, 0, none⟩ = some (.int .i64 0) ∧ wr.cell? ⟨w.heap.size, 1, none⟩ = some (.int .i64 0) ∧ w.heap.size + 1 ≤ wr.heap.size ∧ v.ownBlock ≠ some w.heap.size)) (fun _ i _ => n - (intOf i).toNat)
  case atStart =>
    refine ⟨0, [], by omega, rfl, rfl, Fresh.nil _ _, hzb, ?_, ?_, by simp, by simp [Value.ownBlock]⟩
    · rw [World.cell?_alloc_at _ _ _ _ rfl]; rfl
    · rw [World.cell?_alloc_at _ _ _ _ rfl]; rfl
  case round =>
    obtain ⟨k, ns, hk, rfl, hkey, hF, hB, z0, z1, zs, zv⟩ := hrel
    have hnl : ns.length ≤ k := by
      have := congrArg List.length hkey
      simp only [List.length_map] at this
      have h2 := List.length_filter_le voidIs (l.take k)
      rw [List.length_take] at h2
      omega
    by_cases hlt : k < n
    · obtain ⟨b, off, r, rfl, hPb, hr, er, hc⟩ := (hb.keep fun i hi => hB.block i (hP i hi)).cell hlt
      have hki : (k : Int) < (n : Int) := by omega
      have hk0 : (0 : Int) ≤ (k : Int) := by omega
      have hsz := hB.size
      have hfr := hf r (List.mem_of_getElem? hr)
      have hts := take_filter_succ voidIs l k r hr
      have hPr : ∀ i, P i → i < wr.heap.size := fun i hi => Nat.lt_of_lt_of_le (hP i hi) hsz
      obtain ⟨⟨a0, a1, a2, A1, n1, c1, ds, b0, b1, b2, b3, b4, b5⟩, void, u0, u1⟩ := r
      have x0 := hc 0 _ rfl
      have x1 := hc 1 _ rfl
      have x2 := hc 2 _ rfl
      have x3 := hc 3 _ rfl
      have x4 := hc 4 _ rfl
      have x5 := hc 5 _ rfl
      have x6 := hc 6 _ rfl
      have x7 := hc 7 _ rfl
      have x8 := hc 8 _ rfl
      have x9 := hc 9 _ rfl
      have x10 := hc 10 _ rfl
      have x11 := hc 11 _ rfl
      have x12 := hc 12 _ rfl
      rw [Nat.add_zero] at x0
      have HKEY := Lib.hid hkey
      have HF := Lib.hid hF
      have HTS := Lib.hid hts
      clear hkey hr hc hF hts
      cases void with
      | false =>
        have hno : voidIs ⟨⟨a0, a1, a2, A1, n1, c1, ds, b0, b1, b2, b3, b4, b5⟩, false, u0, u1⟩ = false := rfl
        rw [hno] at HTS
        have HNO := Lib.hid hno
        clear hno
        go_wp2
        go_quiet (fail)
        go_wp2
        go_roundw
        case rel => exact ⟨k + 1, ns, by omega, by go_num, by rw [HTS.out, HKEY.out]; simp, HF.out.dn _, below_drewN hB _, z0, z1, zs, zv⟩
        case measure => simp [intOf]; omega
      | true =>
        have hid : ∀ W, (Op.equalIn 10000 35 (.agg #[.int .i64 u0, .int .i64 u1]) (.agg #[.int .i64 0, .int .i64 0])).run Try.prog W = .ok (decide (u0 = 0) && decide (u1 = 0)) W := fun W => equalIdAny u0 u1 0 0 W
        obtain ⟨β, hβ⟩ : ∃ β : Bool, β = (decide (u0 = 0) && decide (u1 = 0)) := ⟨_, rfl⟩
        have hv2 : voidIs ⟨⟨a0, a1, a2, A1, n1, c1, ds, b0, b1, b2, b3, b4, b5⟩, true, u0, u1⟩ = !β := by rw [hβ]; rfl
        rw [← hβ] at hid
        rw [hv2] at HTS
        clear hβ hv2
        cases β with
        | true =>
          go_wp2
          go_quiet (fail)
          go_wp2
          go_roundw
          case rel => exact ⟨k + 1, ns, by omega, by go_num, by rw [HTS.out, HKEY.out]; simp, HF.out.dn _, below_drewN hB _, z0, z1, zs, zv⟩
          case measure => simp [intOf]; omega
        | false =>
          obtain ⟨v, hv⟩ : ∃ v, v = u3 := ⟨_, rfl⟩
          rw [← hv] at HF zv ⊢
          clear hv
          go_wp2
          go_quiet (fail)
          go_wp2_with fail
          refine (refCopyOf_any ⟨⟨a0, a1, a2, A1, n1, c1, ds, b0, b1, b2, b3, b4, b5⟩, true, u0, u1⟩ P (wr.drewN nq) (show EvR (wr.drewN nq) P _ from er) hPr hfr).mono ?_
          rintro e w2 ⟨r', rfl, hkr, her, hen, k2⟩
          have hkr' := Lib.hid hkr
          have k3 : Below wr.heap.size wr w2 := (below_drewN (Below.refl _ wr) nq).trans k2
          have her' : EvR w2 (New wr w2) r'.e := her
          have hen' : r'.e.n ≤ 1099511627000 := by rw [hen]; exact hfr
          have hF := HF.out
          have z2 := k3.size
          have hz3 : w.heap.size ≤ w2.heap.size := by omega
          obtain ⟨N', hN'⟩ : ∃ N', N' = ns.length := ⟨_, rfl⟩
          have hrow : w2.ownsRow w.heap.size 39 13 v N' (ns.flatMap nc) := by rw [hN']; exact (hF.below k3).row
          have hN2 : N' ≤ 1000000000 := by omega
          have HER := Lib.hid her'
          have HN' := Lib.hid hN'
          clear hkr her hen her' hF hN' z2
          simp only [nc]
          go_wp2_with (at_builtin; (refine wpList_app1 w2 #[.int .i64 r'.e.a0, .int .i64 r'.e.a1, .int .i64 r'.e.a2, .slice r'.e.A r'.e.n r'.e.c, .int .i64 r'.e.b0, .int .i64 r'.e.b1, .int .i64 r'.e.b2, .int .i64 r'.e.b3, .int .i64 r'.e.b4, .int .i64 r'.e.b5, .bool r'.void, .int .i64 r'.y0, .int .i64 r'.y1] rfl _ _ 22 rfl w.heap.size 39 (.agg (nc zeroEn).toArray) 13 120 Try.underlying22 infoEn rfl (by decide) _ N' _ hrow rfl rfl rfl (fun u hu => ncs_one [r'] u (by simpa [nc] using hu)) (by omega) (by omega) hz3 ?_; intro g cap w4 hown4 hgr4 hb4 hat4 _))
          have hF4 : Fresh w4 w.heap.size (.slice (some ⟨g, 0, none⟩) (N' + 1) cap) (ns ++ [r']) := by
            have := HF.out.push (r := r') (g := g) (cap := cap) (w2 := w4) hsz k3 HER.out hen' (by rw [← HN'.out]; exact hown4) hgr4 hat4
            rwa [← HN'.out] at this
          have HF4 := Lib.hid hF4
          have hB4 := hB.trans ((k3.mono hsz).trans hb4)
          have zw : ∀ j, w4.cell? ⟨w.heap.size, j, none⟩ = wr.cell? ⟨w.heap.size, j, none⟩ := fun j => World.cell?_of_block (w := wr) ((hgr4.block _ (by have := k3.size; omega) (fun e => zv e.symm)).trans (k3.block _ (by omega)))
          have y0 := (zw 0).trans z0
          have y1 := (zw 1).trans z1
          have y2 : w.heap.size + 1 ≤ w4.heap.size := by have := hgr4.size; have := k3.size; omega
          have y3 : (Value.slice (some ⟨g, 0, none⟩) (N' + 1) cap).ownBlock ≠ some w.heap.size := fun e => by
            have e2 : g = w.heap.size := Option.some.inj e
            rcases hat4 with h | h
            · exact zv (by rw [h, e2])
            · have := k3.size; omega
          have HB4 := Lib.hid hB4
          have hkk : (ns ++ [r']).map nkey = ((l.take (k + 1)).filter voidIs).map nkey := by rw [HTS.out, List.map_append, HKEY.out, List.map_append]; simp [hkr'.out]
          have HKK := Lib.hid hkk
          clear hF4 hB4 hrow hown4 hgr4 hb4 hat4 hB zw z0 z1 zv hkk
          go_wp2
          go_roundw
          case rel => exact ⟨k + 1, _, by omega, by go_num, HKK.out, HF4.out, HB4.out, y0, y1, y2, y3⟩
          case measure => simp [intOf]; omega
    · obtain rfl : k = n := by omega
      rw [List.take_of_length_le (Nat.le_of_eq hb.len)] at hkey
      have HK := Lib.hid hkey
      clear hkey
      go_wp2
      go_ret
      exact ⟨_, ns, rfl, HK.out, hF, hB⟩
end Go.Proofs.Ytcidmlpjobdakaa
