/- The iterator 'those' with the test of Voided. -/
import Derived.Test.YtcidmlpjobdakaaEnB
namespace Go.Proofs.Ytcidmlpjobdakaa
set_option linter.unusedSimpArgs false
set_option linter.unusedVariables false
set_option linter.unnecessarySimpa false
open Go.RowKit Go.Shelf
attribute [local go_sem] Oper.semAt_some

def voidIs (r : En) : Bool := r.void && !(decide (r.y0 = 0) && decide (r.y1 = 0))
theorem equalIdAny (x y u v : Int) (w : World) : (Op.equalIn 10000 35 (.agg #[.int .i64 x, .int .i64 y]) (.agg #[.int .i64 u, .int .i64 v])).run Try.prog w = .ok (decide (x = u) && decide (y = v)) w := by
  have u3 := Try.underlying3
  have a3 := Try.isAgg3
  have z3 := Try.sizeOf3
  have hS : Try.prog.underlying 35 = some (.struct (Try.prog.fieldsOf 35)) := by kernel_rfl
  have hp : Try.prog.stoodInHeld 35 = false := by kernel_rfl
  rw [show (10000 : Nat) = 9999 + 1 from rfl, run_equalIn_agg w 9999 35 _ _ hS hp]
  simp only [Program.fieldsOf, Try.underlying35]
  by_cases hx : x = u
  · subst hx
    by_cases hy : y = v
    · subst hy
      go_simp
    · have : (y == v) = false := by simp [hy]
      go_simp
  · have : (x == u) = false := by simp [hx]
    go_simp

set_option maxHeartbeats 400000 in
theorem voidTest (r : En) (w : World) :
    Calls Try.prog 43 #[.agg (nc r).toArray] w fun e w' => e = .returned (.bool (voidIs r)) ∧ w' = w.alloc (.cells (nc r).toArray 39) := by
  obtain ⟨⟨a0, a1, a2, A, n, c, ds, b0, b1, b2, b3, b4, b5⟩, void, y0, y1⟩ := r
  cases void with
  | false =>
    rw [show voidIs ⟨⟨a0, a1, a2, A, n, c, ds, b0, b1, b2, b3, b4, b5⟩, false, y0, y1⟩ = false from rfl]
    go_enter Try.func43, Try.ntmps43
    simp only [nc]
    go_wp2
    go_ret
    exact ⟨rfl, rfl⟩
  | true =>
    have hid : ∀ W, (Op.equalIn 10000 35 (.agg #[.int .i64 y0, .int .i64 y1]) (.agg #[.int .i64 0, .int .i64 0])).run Try.prog W = .ok (decide (y0 = 0) && decide (y1 = 0)) W := fun W => equalIdAny y0 y1 0 0 W
    obtain ⟨β, hβ⟩ : ∃ β : Bool, β = (decide (y0 = 0) && decide (y1 = 0)) := ⟨_, rfl⟩
    rw [show voidIs ⟨⟨a0, a1, a2, A, n, c, ds, b0, b1, b2, b3, b4, b5⟩, true, y0, y1⟩ = !β from by rw [hβ]; rfl]
    rw [← hβ] at hid
    clear hβ
    go_enter Try.func43, Try.ntmps43
    simp only [nc]
    go_wp2
    go_ret
    exact ⟨rfl, rfl⟩

set_option maxHeartbeats 1600000 in
set_option maxRecDepth 100000 in
theorem thoseVoid {Ok : En → Prop} (n : Nat) (hn : 4 ≤ n) (l Bs Bf n₀ B : Nat) (A : Option Addr) (N c : Nat) (L : List (Subtype Ok)) (J Jx : List (Subtype Ok × Nat) → World → Prop) (W : World)
    (hJ : AbidesFrom W.heap.size J)
    (hY : ∀ pre x W1, J pre W1 → pre.length < L.length → YieldAt Fence.wide (n - 1) Try.prog l (encs x) W1 fun e W' => (e = .returned (.bool true) ∧ J (pre ++ [x]) W' ∧ KeepsBut n₀ B W1 W') ∨ (e = .returned (.bool false) ∧ Jx (pre ++ [x]) W'))
    (hN : N ≤ 1099511627000) (hn₀ : n₀ ≤ W.heap.size) (hBs : W.cell? ⟨Bs, 0, none⟩ = some (.slice A N c)) (hBf : W.cell? ⟨Bf, 0, none⟩ = some (.func (.func 43) #[] #[]))
    (hl : RL W (fun i => i < n₀ ∧ i ≠ B) A N (L.map Subtype.val))
    (hne : (Bs < n₀ ∧ Bs ≠ B) ∧ (Bf < n₀ ∧ Bf ≠ B)) (h0 : J [] W) :
    CallsIn Fence.wide n Try.prog 59 #[.func (.yield l) #[] #[], .pointer (some ⟨Bs, 0, none⟩), .pointer (some ⟨Bf, 0, none⟩)] W fun e W' => (∃ v, e = .returned v) ∧
      ((∃ ys, ys = hits (voidIs) L ∧ J ys W') ∨ (∃ pre, pre <+: hits (voidIs) L ∧ Jx pre W')) := by
  have hlen : L.length = N := by have := hl.len; simpa using this
  refine callsIn_of_wp Try.func59 rfl trivial ?_ rfl
  simp only [Try.ntmps59, List.size_toArray, List.length_cons, List.length_nil, Nat.reduceAdd, Nat.reduceSub, Array.replicate_succ, Array.replicate_zero, List.push_toArray, List.append_toArray, List.nil_append, List.cons_append]
  gi_wp2
  gi_loopw [4, 9] (fun m i wr => ∃ k : Nat, k ≤ N ∧ i = .int .i64 k ∧ m = .int .i64 ((hits (voidIs) (L.take k)).length : Int) ∧ J (hits (voidIs) (L.take k)) wr ∧ KeepsBut n₀ B W wr) (fun _ i _ => N - (intOf i).toNat)
  case atStart => exact ⟨0, Nat.zero_le _, rfl, rfl, h0, KeepsBut.refl _ _ _⟩
  case round =>
    obtain ⟨k, hk, rfl, rfl, hJs, hK⟩ := hrel
    obtain ⟨hbs, hbf⟩ := hne
    have k1 : wr.cell? ⟨Bf, 0, none⟩ = some (.func (.func 43) #[] #[]) := (World.cell?_of_block (w := W) (hK.2 Bf hbf.1 hbf.2)).trans hBf
    by_cases hlt : k < N
    · obtain ⟨⟨r, hok⟩, hr⟩ : ∃ x : Subtype Ok, L[k]? = some x := ⟨_, List.getElem?_eq_getElem (by omega)⟩
      have hks : wr.heap.size = wr.heap.size := rfl
      obtain ⟨b, off, r', rfl, hPb, hr', er, hc⟩ := (hl.keep fun i hi => hK.2 i hi.1 hi.2).cell hlt
      have e' : r' = r := by
        rw [List.getElem?_map, hr] at hr'
        exact (Option.some.inj hr').symm
      subst e'
      have hki : (k : Int) < (N : Int) := by omega
      have hk0 : (0 : Int) ≤ (k : Int) := by omega
      obtain ⟨⟨a0, a1, a2, A', n', c', ds, b0, b1, b2, b3, b4, b5⟩, void, u0', u1'⟩ := r'
      have x0 := hc 0 _ rfl
      have x1 := hc 1 _ rfl
      have x2 := hc 2 _ rfl
      have x3 := hc 3 _ rfl
      have x4 := hc 4 _ rfl
      have x5 := hc 5 _ rfl
      have x6 := hc 6 _ rfl
      have x7 := hc 7 _ rfl
      have x8 := hc 8 _ rfl
      have x9 := hc 9 _ rfl
      have x10 := hc 10 _ rfl
      have x11 := hc 11 _ rfl
      have x12 := hc 12 _ rfl
      rw [Nat.add_zero] at x0
      have hsnoc := take_succ_get L k _ hr
      have hle := hits_length_le (voidIs) (L.take k)
      rw [List.length_take] at hle
      have HL := Lib.hid hlen
      have HR := Lib.hid hr
      have HC := Lib.hid hc
      have HK := Lib.hid hK
      have HSN := Lib.hid hsnoc
      have htest := voidTest ⟨⟨a0, a1, a2, A', n', c', ds, b0, b1, b2, b3, b4, b5⟩, void, u0', u1'⟩ (wr.alloc (.cells (nc ⟨⟨a0, a1, a2, A', n', c', ds, b0, b1, b2, b3, b4, b5⟩, void, u0', u1'⟩).toArray 39))
      have hwf : (wr.alloc (.cells (nc ⟨⟨a0, a1, a2, A', n', c', ds, b0, b1, b2, b3, b4, b5⟩, void, u0', u1'⟩).toArray 39)).cell? ⟨Bf, 0, none⟩ = some (.func (.func 43) #[] #[]) := (World.cell?_alloc_past _ _ _ (World.block_lt_of_cell? _ _ k1)).trans k1
      simp only [nc] at hwf
      obtain ⟨M, hM⟩ : ∃ M, M = (hits (voidIs) (L.take k)).length := ⟨_, rfl⟩
      rw [← hM] at hle ⊢
      have HM := Lib.hid hM
      have hmN : M ≤ 1099511627000 := by omega
      have hJ2 : J (hits (voidIs) (L.take k)) ((wr.alloc (.cells (nc ⟨⟨a0, a1, a2, A', n', c', ds, b0, b1, b2, b3, b4, b5⟩, void, u0', u1'⟩).toArray 39)).alloc (.cells (nc ⟨⟨a0, a1, a2, A', n', c', ds, b0, b1, b2, b3, b4, b5⟩, void, u0', u1'⟩).toArray 39)) :=
        hJ _ _ _ none (hJ _ _ _ none hJs (World.grownBy_alloc _ _ none) (fun r e => by cases e)) (World.grownBy_alloc _ _ none) (fun r e => by cases e)
      have hk2 : KeepsBut n₀ B W ((wr.alloc (.cells (nc ⟨⟨a0, a1, a2, A', n', c', ds, b0, b1, b2, b3, b4, b5⟩, void, u0', u1'⟩).toArray 39)).alloc (.cells (nc ⟨⟨a0, a1, a2, A', n', c', ds, b0, b1, b2, b3, b4, b5⟩, void, u0', u1'⟩).toArray 39)) :=
        HK.out.trans (KeepsBut.of_below (B := B) (((Below.refl n₀ wr).alloc (Nat.le_trans hn₀ HK.out.1) _).alloc (by have := HK.out.1; simp; omega) _))
      have HK2 := Lib.hid hk2
      have HY := hY _ (⟨⟨⟨a0, a1, a2, A', n', c', ds, b0, b1, b2, b3, b4, b5⟩, void, u0', u1'⟩, hok⟩, M) _ hJ2 (by rw [← hM, hlen]; omega)
      have HJ2 := Lib.hid hJ2
      simp only [nc] at htest
      clear hr hr' hc hK hl hsnoc hBs hBf hM hlen hJs hY hJ hk2 hJ2 h0
      obtain ⟨β, hβ⟩ : ∃ β : Bool, β = voidIs ⟨⟨a0, a1, a2, A', n', c', ds, b0, b1, b2, b3, b4, b5⟩, void, u0', u1'⟩ := ⟨_, rfl⟩
      rw [← hβ] at htest
      have hβ2 : voidIs ⟨⟨a0, a1, a2, A', n', c', ds, b0, b1, b2, b3, b4, b5⟩, void, u0', u1'⟩ = β := hβ.symm
      have Hβ := Lib.hid hβ2
      clear hβ hβ2
      cases β with
      | true =>
        obtain ⟨fn, tmps, assign, body, hy, hR⟩ := HY
        simp only [encs, nc] at hy hR
        gi_wp2_with (refine ⟨trivial, fun h => (by cases h), ?_⟩; refine (callsIn_wide.2 htest).mono ?_; rintro e w' ⟨rfl, rfl⟩)
        refine ⟨fun h => (by cases h), hR.mono ?_⟩
        have hpre : hits (voidIs) (L.take (k + 1)) = hits (voidIs) (L.take k) ++ [(⟨⟨⟨a0, a1, a2, A', n', c', ds, b0, b1, b2, b3, b4, b5⟩, void, u0', u1'⟩, hok⟩, M)] := by rw [HSN.out, hits_hit Hβ.out, ← HM.out]
        have HPRE := Lib.hid hpre
        clear hpre hy hR
        rintro e W3 (⟨rfl, hJ3, hk3⟩ | ⟨rfl, hJx3⟩)
        · have hK3 := HK2.out.trans hk3
          have hJ4 : J (hits (voidIs) (L.take (k + 1))) W3 := by rw [HPRE.out]; exact hJ3
          have hM4 : (hits (voidIs) (L.take (k + 1))).length = M + 1 := by rw [HPRE.out, List.length_append, ← HM.out]; rfl
          have HJ4 := Lib.hid hJ4
          have HK3 := Lib.hid hK3
          have HM4 := Lib.hid hM4
          clear hJ4 hK3 hM4 hJ3 hk3
          gi_wp2
          go_roundw
          case rel => exact ⟨k + 1, by omega, by go_num, by rw [HM4.out]; go_num, HJ4.out, HK3.out⟩
          case measure => simp [intOf]; omega
        · have hpx : hits (voidIs) (L.take (k + 1)) <+: hits (voidIs) L := hits_prefix _ _ _
          rw [HPRE.out] at hpx
          gi_wp2
          refine bodyPost_ret (results_none rfl _ _ _) rfl ?_
          exact ⟨⟨_, rfl⟩, .inr ⟨_, hpx, hJx3⟩⟩
      | false =>
        clear HY
        gi_wp2_with (refine ⟨trivial, fun h => (by cases h), ?_⟩; refine (callsIn_wide.2 htest).mono ?_; rintro e w' ⟨rfl, rfl⟩)
        go_roundw
        case rel => exact ⟨k + 1, by omega, by go_num, by rw [HSN.out, hits_miss Hβ.out, ← HM.out], by rw [HSN.out, hits_miss Hβ.out]; exact HJ2.out, HK2.out⟩
        case measure => simp [intOf]; omega
    · obtain rfl : k = N := by omega
      rw [List.take_of_length_le (Nat.le_of_eq hlen)] at hJs ⊢
      gi_wp2
      go_end0
      exact ⟨⟨_, rfl⟩, .inl ⟨_, rfl, hJs⟩⟩
end Go.Proofs.Ytcidmlpjobdakaa
