/- Rounds of a range over a function: steps of a region that draws; the iterator 'those' with either test. -/
import Derived.Test.YtcidmlpjobdakaaEnA
import Derived.RangeFuncNested
import Derived.RangeFuncBound
import Derived.RangeFuncCalls
import Derived.RangeFuncLeaves
import Derived.RangeFuncBox
import Derived.Shelf.Abstract
import Derived.Shelf.RegionOpen
import Derived.WalkKit
import Derived.OwnWalkIn
import Derived.TacticsInMore
import Derived.LoopNIn
import Derived.LoopIn
namespace Go.Proofs.Ytcidmlpjobdakaa
set_option linter.unusedSimpArgs false
set_option linter.unusedVariables false
set_option linter.unnecessarySimpa false
open Go.RowKit Go.Shelf
attribute [local go_sem] Oper.semAt_some

/-- A step of a region that draws, in a round: as everywhere, where it yields a value. -/
theorem stepIn_value {l n : Nat} {P : Program} {ops : Array Oper} {o : Oper} {a : Act} {w w' : World} {v : Value} {K : Act → World → Prop} {Q : Exit → Act → World → Prop} {E : Prop} (hg : o.guard = none) (hd : ∀ c, o.op ≠ .defer c)
    (hr : (execOp a.eval o).run P w = .ok (.value v) w') (hK : K (a.put o.dst v) w') :
    if Region.wanted o (yielded ops a.tmps) = true then Oper.wpIn (Fence.wide.inRound l) n P o a w K Q else E := by
  have hw : Region.wanted o (yielded ops a.tmps) = true := by simp [Region.wanted, hg]
  rw [if_pos hw]
  refine ⟨fun _ _ => trivial, ?_⟩
  rw [show o.semAt (Fence.wide.inRound l).round a.eval = execOp a.eval o from Oper.semAt_some l _ _ hd, hr]
  exact hK
theorem stepIn_call {l n : Nat} {P : Program} {ops : Array Oper} {o : Oper} {a : Act} {w w' : World} {f : FuncId} {args : Array Value} {K : Act → World → Prop} {Q : Exit → Act → World → Prop} {E : Prop} (hg : o.guard = none) (hd : ∀ c, o.op ≠ .defer c)
    (hr : (execOp a.eval o).run P w = .ok (.enter f args) w') (hc : Calls P f args w' fun e w'' => ∃ v, e = .returned v ∧ K (a.put o.dst v) w'') :
    if Region.wanted o (yielded ops a.tmps) = true then Oper.wpIn (Fence.wide.inRound l) n P o a w K Q else E := by
  have hw : Region.wanted o (yielded ops a.tmps) = true := by simp [Region.wanted, hg]
  rw [if_pos hw]
  refine ⟨fun _ _ => trivial, ?_⟩
  rw [show o.semAt (Fence.wide.inRound l).round a.eval = execOp a.eval o from Oper.semAt_some l _ _ hd, hr, Oper.uponIn_enter]
  refine ⟨fun h => (by cases h), CallsIn.inRound l (callsIn_wide.2 (hc.mono ?_))⟩
  rintro e w'' ⟨v, rfl, hk⟩
  exact hk

/-- Those of which p is so, with their numbers among these. -/
def hits {Ok : En → Prop} (p : En → Bool) (L : List (Subtype Ok)) : List (Subtype Ok × Nat) := (L.filter fun r => p r.1).zipIdx
theorem hits_hit {Ok : En → Prop} {p : En → Bool} {L : List (Subtype Ok)} {r : Subtype Ok} (h : p r.1 = true) : hits p (L ++ [r]) = hits p L ++ [(r, (hits p L).length)] := by
  unfold hits
  rw [List.filter_append, List.zipIdx_append, List.length_zipIdx]
  simp [h]
theorem hits_miss {Ok : En → Prop} {p : En → Bool} {L : List (Subtype Ok)} {r : Subtype Ok} (h : p r.1 = false) : hits p (L ++ [r]) = hits p L := by
  unfold hits
  rw [List.filter_append]
  simp [h]
theorem hits_length_le {Ok : En → Prop} (p : En → Bool) (L : List (Subtype Ok)) : (hits p L).length ≤ L.length := by
  unfold hits
  rw [List.length_zipIdx]
  exact List.length_filter_le _ _
theorem hits_prefix {Ok : En → Prop} (p : En → Bool) (L : List (Subtype Ok)) (k : Nat) : hits p (L.take k) <+: hits p L := by
  have : hits p L = hits p (L.take k ++ L.drop k) := by rw [List.take_append_drop]
  rw [this]
  unfold hits
  rw [List.filter_append, List.zipIdx_append]
  exact List.prefix_append _ _
abbrev encs {Ok : En → Prop} (x : Subtype Ok × Nat) : Array Value := #[.int .i64 (x.2 : Int), .agg (nc x.1.1).toArray]
/-- What a round that goes on keeps: all blocks below n₀ but one. -/
def KeepsBut (n₀ B : Nat) (W W' : World) : Prop := W.heap.size ≤ W'.heap.size ∧ ∀ i, i < n₀ → i ≠ B → W'.heap[i]? = W.heap[i]?
theorem KeepsBut.refl (n₀ B : Nat) (W : World) : KeepsBut n₀ B W W := ⟨Nat.le_refl _, fun _ _ _ => rfl⟩
theorem KeepsBut.trans {n₀ B : Nat} {W W1 W2 : World} (h : KeepsBut n₀ B W W1) (k : KeepsBut n₀ B W1 W2) : KeepsBut n₀ B W W2 := ⟨Nat.le_trans h.1 k.1, fun i h1 h2 => (k.2 i h1 h2).trans (h.2 i h1 h2)⟩
theorem KeepsBut.of_below {n₀ B : Nat} {W W' : World} (h : Below n₀ W W') : KeepsBut n₀ B W W' := ⟨h.size, fun i hi _ => h.block i hi⟩
theorem keepsBut_b {n₀ B : Nat} {w : World} (hn : n₀ ≤ w.heap.size) (W : World) (l : Nat) (o o' : Obj) (hl : w.heap.size ≤ l) (h : W.heap[l]? = some o) (h1 : o.isCells = false) (h2 : o.isWalk = false) : KeepsBut n₀ B W (W.putObj l o') :=
  KeepsBut.of_below (belowK_b hn W l o o' hl h h1 h2)

set_option maxHeartbeats 400000 in
theorem readTest (r : En) (bt ba : Nat) (t a : Int) (w : World) (h1 : w.cell? ⟨bt, 0, none⟩ = some (.int .i64 t)) (h2 : w.cell? ⟨ba, 0, none⟩ = some (.int .i64 a)) :
    Calls Try.prog 40 #[.agg (nc r).toArray, .pointer (some ⟨bt, 0, none⟩), .pointer (some ⟨ba, 0, none⟩)] w fun e w' => e = .returned (.bool (decide (r.e.b0 = t) && decide (r.e.b1 = a))) ∧ w' = w.alloc (.cells (nc r).toArray 39) := by
  have hl1 := World.block_lt_of_cell? _ _ h1
  have hl2 := World.block_lt_of_cell? _ _ h2
  by_cases hf : r.e.b0 = t
  · have d1 : (r.e.b0 == t) = true := by simp [hf]
    have d1' : decide (r.e.b0 = t) = true := by simp [hf]
    by_cases ht : r.e.b1 = a
    · have d2 : (r.e.b1 == a) = true := by simp [ht]
      have d2' : decide (r.e.b1 = a) = true := by simp [ht]
      rw [d1', d2']
      clear d1' d2' hf ht
      go_enter Try.func40, Try.ntmps40
      simp only [nc]
      go_wp2
      go_ret
      exact ⟨rfl, rfl⟩
    · have d2 : (r.e.b1 == a) = false := by simp [ht]
      have d2' : decide (r.e.b1 = a) = false := by simp [ht]
      rw [d1', d2']
      clear d1' d2' hf ht
      go_enter Try.func40, Try.ntmps40
      simp only [nc]
      go_wp2
      go_ret
      exact ⟨rfl, rfl⟩
  · have d1 : (r.e.b0 == t) = false := by simp [hf]
    have d1' : decide (r.e.b0 = t) = false := by simp [hf]
    rw [d1', Bool.false_and]
    clear d1' hf
    go_enter Try.func40, Try.ntmps40
    simp only [nc]
    go_wp2
    go_ret
    exact ⟨rfl, rfl⟩
def readIs (t a : Int) (r : En) : Bool := decide (r.e.b0 = t) && decide (r.e.b1 = a)

set_option maxHeartbeats 1600000 in
set_option maxRecDepth 100000 in
theorem thoseRead {Ok : En → Prop} (n : Nat) (hn : 4 ≤ n) (l Bs Bf bt ba n₀ B : Nat) (t a : Int) (A : Option Addr) (N c : Nat) (L : List (Subtype Ok)) (J Jx : List (Subtype Ok × Nat) → World → Prop) (W : World)
    (hJ : AbidesFrom W.heap.size J)
    (hY : ∀ pre x W1, J pre W1 → pre.length < L.length → YieldAt Fence.wide (n - 1) Try.prog l (encs x) W1 fun e W' => (e = .returned (.bool true) ∧ J (pre ++ [x]) W' ∧ KeepsBut n₀ B W1 W') ∨ (e = .returned (.bool false) ∧ Jx (pre ++ [x]) W'))
    (hN : N ≤ 1099511627000) (hn₀ : n₀ ≤ W.heap.size) (hBs : W.cell? ⟨Bs, 0, none⟩ = some (.slice A N c)) (hBf : W.cell? ⟨Bf, 0, none⟩ = some (.func (.func 40) #[] #[.pointer (some ⟨bt, 0, none⟩), .pointer (some ⟨ba, 0, none⟩)]))
    (hbt : W.cell? ⟨bt, 0, none⟩ = some (.int .i64 t)) (hba : W.cell? ⟨ba, 0, none⟩ = some (.int .i64 a)) (hl : RL W (fun i => i < n₀ ∧ i ≠ B) A N (L.map Subtype.val))
    (hne : (Bs < n₀ ∧ Bs ≠ B) ∧ (Bf < n₀ ∧ Bf ≠ B) ∧ (bt < n₀ ∧ bt ≠ B) ∧ (ba < n₀ ∧ ba ≠ B)) (h0 : J [] W) :
    CallsIn Fence.wide n Try.prog 59 #[.func (.yield l) #[] #[], .pointer (some ⟨Bs, 0, none⟩), .pointer (some ⟨Bf, 0, none⟩)] W fun e W' => (∃ v, e = .returned v) ∧
      ((∃ ys, ys = hits (readIs t a) L ∧ J ys W') ∨ (∃ pre, pre <+: hits (readIs t a) L ∧ Jx pre W')) := by
  have hlen : L.length = N := by have := hl.len; simpa using this
  refine callsIn_of_wp Try.func59 rfl trivial ?_ rfl
  simp only [Try.ntmps59, List.size_toArray, List.length_cons, List.length_nil, Nat.reduceAdd, Nat.reduceSub, Array.replicate_succ, Array.replicate_zero, List.push_toArray, List.append_toArray, List.nil_append, List.cons_append]
  gi_wp2
  gi_loopw [4, 9] (fun m i wr => ∃ k : Nat, k ≤ N ∧ i = .int .i64 k ∧ m = .int .i64 ((hits (readIs t a) (L.take k)).length : Int) ∧ J (hits (readIs t a) (L.take k)) wr ∧ KeepsBut n₀ B W wr) (fun _ i _ => N - (intOf i).toNat)
  case atStart => exact ⟨0, Nat.zero_le _, rfl, rfl, h0, KeepsBut.refl _ _ _⟩
  case round =>
    obtain ⟨k, hk, rfl, rfl, hJs, hK⟩ := hrel
    obtain ⟨hbs, hbf, hbt', hba'⟩ := hne
    have k1 : wr.cell? ⟨Bf, 0, none⟩ = some (.func (.func 40) #[] #[.pointer (some ⟨bt, 0, none⟩), .pointer (some ⟨ba, 0, none⟩)]) := (World.cell?_of_block (w := W) (hK.2 Bf hbf.1 hbf.2)).trans hBf
    have k2 : wr.cell? ⟨bt, 0, none⟩ = some (.int .i64 t) := (World.cell?_of_block (w := W) (hK.2 bt hbt'.1 hbt'.2)).trans hbt
    have k3 : wr.cell? ⟨ba, 0, none⟩ = some (.int .i64 a) := (World.cell?_of_block (w := W) (hK.2 ba hba'.1 hba'.2)).trans hba
    by_cases hlt : k < N
    · obtain ⟨⟨r, hok⟩, hr⟩ : ∃ x : Subtype Ok, L[k]? = some x := ⟨_, List.getElem?_eq_getElem (by omega)⟩
      have hks : wr.heap.size = wr.heap.size := rfl
      obtain ⟨b, off, r', rfl, hPb, hr', er, hc⟩ := (hl.keep fun i hi => hK.2 i hi.1 hi.2).cell hlt
      have e' : r' = r := by
        rw [List.getElem?_map, hr] at hr'
        exact (Option.some.inj hr').symm
      subst e'
      have hki : (k : Int) < (N : Int) := by omega
      have hk0 : (0 : Int) ≤ (k : Int) := by omega
      obtain ⟨⟨a0, a1, a2, A', n', c', ds, b0, b1, b2, b3, b4, b5⟩, void, u0', u1'⟩ := r'
      have x0 := hc 0 _ rfl
      have x1 := hc 1 _ rfl
      have x2 := hc 2 _ rfl
      have x3 := hc 3 _ rfl
      have x4 := hc 4 _ rfl
      have x5 := hc 5 _ rfl
      have x6 := hc 6 _ rfl
      have x7 := hc 7 _ rfl
      have x8 := hc 8 _ rfl
      have x9 := hc 9 _ rfl
      have x10 := hc 10 _ rfl
      have x11 := hc 11 _ rfl
      have x12 := hc 12 _ rfl
      rw [Nat.add_zero] at x0
      have hsnoc := take_succ_get L k _ hr
      have hle := hits_length_le (readIs t a) (L.take k)
      rw [List.length_take] at hle
      have HL := Lib.hid hlen
      have HR := Lib.hid hr
      have HC := Lib.hid hc
      have HK := Lib.hid hK
      have HSN := Lib.hid hsnoc
      have hwt : (wr.alloc (.cells (nc ⟨⟨a0, a1, a2, A', n', c', ds, b0, b1, b2, b3, b4, b5⟩, void, u0', u1'⟩).toArray 39)).cell? ⟨bt, 0, none⟩ = some (.int .i64 t) := (World.cell?_alloc_past _ _ _ (World.block_lt_of_cell? _ _ k2)).trans k2
      have hwa : (wr.alloc (.cells (nc ⟨⟨a0, a1, a2, A', n', c', ds, b0, b1, b2, b3, b4, b5⟩, void, u0', u1'⟩).toArray 39)).cell? ⟨ba, 0, none⟩ = some (.int .i64 a) := (World.cell?_alloc_past _ _ _ (World.block_lt_of_cell? _ _ k3)).trans k3
      have htest := readTest ⟨⟨a0, a1, a2, A', n', c', ds, b0, b1, b2, b3, b4, b5⟩, void, u0', u1'⟩ bt ba t a _ hwt hwa
      have hwf : (wr.alloc (.cells (nc ⟨⟨a0, a1, a2, A', n', c', ds, b0, b1, b2, b3, b4, b5⟩, void, u0', u1'⟩).toArray 39)).cell? ⟨Bf, 0, none⟩ = some (.func (.func 40) #[] #[.pointer (some ⟨bt, 0, none⟩), .pointer (some ⟨ba, 0, none⟩)]) := (World.cell?_alloc_past _ _ _ (World.block_lt_of_cell? _ _ k1)).trans k1
      simp only [nc] at hwf
      obtain ⟨M, hM⟩ : ∃ M, M = (hits (readIs t a) (L.take k)).length := ⟨_, rfl⟩
      rw [← hM] at hle ⊢
      have HM := Lib.hid hM
      have hmN : M ≤ 1099511627000 := by omega
      have hJ2 : J (hits (readIs t a) (L.take k)) ((wr.alloc (.cells (nc ⟨⟨a0, a1, a2, A', n', c', ds, b0, b1, b2, b3, b4, b5⟩, void, u0', u1'⟩).toArray 39)).alloc (.cells (nc ⟨⟨a0, a1, a2, A', n', c', ds, b0, b1, b2, b3, b4, b5⟩, void, u0', u1'⟩).toArray 39)) :=
        hJ _ _ _ none (hJ _ _ _ none hJs (World.grownBy_alloc _ _ none) (fun r e => by cases e)) (World.grownBy_alloc _ _ none) (fun r e => by cases e)
      have hk2 : KeepsBut n₀ B W ((wr.alloc (.cells (nc ⟨⟨a0, a1, a2, A', n', c', ds, b0, b1, b2, b3, b4, b5⟩, void, u0', u1'⟩).toArray 39)).alloc (.cells (nc ⟨⟨a0, a1, a2, A', n', c', ds, b0, b1, b2, b3, b4, b5⟩, void, u0', u1'⟩).toArray 39)) :=
        HK.out.trans (KeepsBut.of_below (B := B) (((Below.refl n₀ wr).alloc (Nat.le_trans hn₀ HK.out.1) _).alloc (by have := HK.out.1; simp; omega) _))
      have HK2 := Lib.hid hk2
      have HY := hY _ (⟨⟨⟨a0, a1, a2, A', n', c', ds, b0, b1, b2, b3, b4, b5⟩, void, u0', u1'⟩, hok⟩, M) _ hJ2 (by rw [← hM, hlen]; omega)
      have HJ2 := Lib.hid hJ2
      simp only [nc] at htest
      clear hr hr' hc hK hl hsnoc hBs hBf hbt hba hM hlen hwt hwa hJs hY hJ hk2 hJ2 h0
      obtain ⟨β, hβ⟩ : ∃ β : Bool, β = (decide (b0 = t) && decide (b1 = a)) := ⟨_, rfl⟩
      rw [← hβ] at htest
      have hβ2 : readIs t a ⟨⟨a0, a1, a2, A', n', c', ds, b0, b1, b2, b3, b4, b5⟩, void, u0', u1'⟩ = β := hβ.symm
      have Hβ := Lib.hid hβ2
      clear hβ hβ2
      cases β with
      | true =>
        obtain ⟨fn, tmps, assign, body, hy, hR⟩ := HY
        simp only [encs, nc] at hy hR
        gi_wp2_with (refine ⟨trivial, fun h => (by cases h), ?_⟩; refine (callsIn_wide.2 htest).mono ?_; rintro e w' ⟨rfl, rfl⟩)
        refine ⟨fun h => (by cases h), hR.mono ?_⟩
        have hpre : hits (readIs t a) (L.take (k + 1)) = hits (readIs t a) (L.take k) ++ [(⟨⟨⟨a0, a1, a2, A', n', c', ds, b0, b1, b2, b3, b4, b5⟩, void, u0', u1'⟩, hok⟩, M)] := by rw [HSN.out, hits_hit Hβ.out, ← HM.out]
        have HPRE := Lib.hid hpre
        clear hpre hy hR
        rintro e W3 (⟨rfl, hJ3, hk3⟩ | ⟨rfl, hJx3⟩)
        · have hK3 := HK2.out.trans hk3
          have hJ4 : J (hits (readIs t a) (L.take (k + 1))) W3 := by rw [HPRE.out]; exact hJ3
          have hM4 : (hits (readIs t a) (L.take (k + 1))).length = M + 1 := by rw [HPRE.out, List.length_append, ← HM.out]; rfl
          have HJ4 := Lib.hid hJ4
          have HK3 := Lib.hid hK3
          have HM4 := Lib.hid hM4
          clear hJ4 hK3 hM4 hJ3 hk3
          gi_wp2
          go_roundw
          case rel => exact ⟨k + 1, by omega, by go_num, by rw [HM4.out]; go_num, HJ4.out, HK3.out⟩
          case measure => simp [intOf]; omega
        · have hpx : hits (readIs t a) (L.take (k + 1)) <+: hits (readIs t a) L := hits_prefix _ _ _
          rw [HPRE.out] at hpx
          gi_wp2
          refine bodyPost_ret (results_none rfl _ _ _) rfl ?_
          exact ⟨⟨_, rfl⟩, .inr ⟨_, hpx, hJx3⟩⟩
      | false =>
        clear HY
        gi_wp2_with (refine ⟨trivial, fun h => (by cases h), ?_⟩; refine (callsIn_wide.2 htest).mono ?_; rintro e w' ⟨rfl, rfl⟩)
        go_roundw
        case rel => exact ⟨k + 1, by omega, by go_num, by rw [HSN.out, hits_miss Hβ.out, ← HM.out], by rw [HSN.out, hits_miss Hβ.out]; exact HJ2.out, HK2.out⟩
        case measure => simp [intOf]; omega
    · obtain rfl : k = N := by omega
      rw [List.take_of_length_le (Nat.le_of_eq hlen)] at hJs ⊢
      gi_wp2
      go_end0
      exact ⟨⟨_, rfl⟩, .inl ⟨_, rfl, hJs⟩⟩
end Go.Proofs.Ytcidmlpjobdakaa
