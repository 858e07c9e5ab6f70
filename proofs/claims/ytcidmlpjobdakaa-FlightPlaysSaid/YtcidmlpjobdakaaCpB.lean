/- Copies of lists of events and of messages; SpoilEvents. -/
import Derived.Test.YtcidmlpjobdakaaCpA
namespace Go.Proofs.Ytcidmlpjobdakaa
set_option linter.unusedSimpArgs false
set_option linter.unusedVariables false
set_option linter.unnecessarySimpa false
open Go.RowKit

/-- A row of events of the call's own, with what they hold. -/
structure FreshE (w : World) (n₀ : Nat) (v : Value) (ns : List Ev) : Prop where
  row : w.ownsRow n₀ 37 10 v ns.length (ecs ns)
  deps : ∀ r ∈ ns, EvR w (fun i => n₀ ≤ i ∧ i < w.heap.size ∧ CellsAt w i ∧ some i ≠ v.ownBlock) r ∧ r.n ≤ 1099511627000
theorem FreshE.nil (w : World) (n₀ : Nat) : FreshE w n₀ (.slice none 0 0) [] := ⟨World.ownsRow_nil _ _ _ _, fun r h => by cases h⟩
theorem FreshE.below {w w' : World} {n₀ : Nat} {v : Value} {ns : List Ev} (h : FreshE w n₀ v ns) (hb : Below w.heap.size w w') : FreshE w' n₀ v ns := by
  refine ⟨own_below h.row hb, fun r hr => ?_⟩
  obtain ⟨h1, h2⟩ := h.deps r hr
  exact ⟨(h1.keep fun i hi => hb.block i hi.2.1).more fun i hi => ⟨hi.1, Nat.lt_of_lt_of_le hi.2.1 hb.size, hi.2.2.1.keep (hb.block i hi.2.1), hi.2.2.2⟩, h2⟩
theorem FreshE.push {w w1 w2 : World} {n₀ : Nat} {v : Value} {ns : List Ev} {r : Ev} {g cap : Nat} (h : FreshE w n₀ v ns) (hn₀ : n₀ ≤ w.heap.size) (hB : Below w.heap.size w w1) (hr : EvR w1 (New w w1) r) (hf : r.n ≤ 1099511627000)
    (ho : w2.ownsRow n₀ 37 10 (.slice (some ⟨g, 0, none⟩) (ns.length + 1) cap) (ns.length + 1) (ecs ns ++ ec r)) (hgr : w1.grownBy w2 v.ownBlock) (hat : v.ownBlock = some g ∨ w1.heap.size ≤ g) :
    FreshE w2 n₀ (.slice (some ⟨g, 0, none⟩) (ns.length + 1) cap) (ns ++ [r]) := by
  have z1 := hB.size
  have z2 := hgr.size
  have hvb : ∀ i, some i = v.ownBlock → i < w.heap.size := fun i e => (h.row.lt i e.symm).2
  refine ⟨?_, fun x hx => ?_⟩
  · rw [ecs_append, List.length_append, List.length_singleton, show ecs [r] = ec r from by simp [ecs]]
    exact ho
  · rcases List.mem_append.1 hx with hx | hx
    · obtain ⟨h5, h6⟩ := h.deps x hx
      have hh : ∀ i, (n₀ ≤ i ∧ i < w.heap.size ∧ CellsAt w i ∧ some i ≠ v.ownBlock) → w2.heap[i]? = w.heap[i]? := fun i hi => (hgr.block i (by omega) hi.2.2.2).trans (hB.block i hi.2.1)
      refine ⟨(h5.keep hh).more fun i hi => ⟨hi.1, by omega, hi.2.2.1.keep (hh i hi), fun e => ?_⟩, h6⟩
      have e2 : i = g := Option.some.inj e
      rcases hat with h7 | h7
      · exact hi.2.2.2 (by rw [e2, h7])
      · omega
    · obtain rfl := List.mem_singleton.1 hx
      have hne : ∀ i, New w w1 i → some i ≠ v.ownBlock := fun i hi e => by have := hvb i e; have := hi.1; omega
      have hh : ∀ i, New w w1 i → w2.heap[i]? = w1.heap[i]? := fun i hi => hgr.block i hi.2.1 (hne i hi)
      refine ⟨(hr.keep hh).more fun i hi => ⟨by have := hi.1; omega, by have := hi.2.1; omega, hi.2.2.keep (hh i hi), fun e => ?_⟩, hf⟩
      have e2 : i = g := Option.some.inj e
      rcases hat with h7 | h7
      · exact hne i hi (by rw [e2, h7])
      · have := hi.2.1; omega

set_option maxHeartbeats 1600000 in
set_option maxRecDepth 100000 in
theorem copyEvents_any (P : Nat → Prop) (A : Option Addr) (n c : Nat) (l : List Ev) (w : World) (hb : RE w P A n l) (hP : ∀ i, P i → i < w.heap.size) (hn : n ≤ 1099511627000) (hf : ∀ r ∈ l, r.n ≤ 1099511627000) :
    Calls Try.prog 62 #[.slice A n c] w fun e w' => ∃ v ns, e = .returned v ∧ ns.map ekey = l.map ekey ∧ FreshE w' w.heap.size v ns ∧ Below w.heap.size w w' := by
  go_enter Try.func62, Try.ntmps62
  go_wp2
  go_loopw [3, 4] (fun v i wr => ∃ (k : Nat) (ns : List Ev), k ≤ n ∧ i = .int .i64 k ∧ ns.map ekey = (l.take k).map ekey ∧ FreshE wr w.heap.size v ns ∧ Below w.heap.size w wr) (fun _ i _ => n - (intOf i).toNat)
  case atStart => exact ⟨0, [], by omega, rfl, rfl, FreshE.nil _ _, Below.refl _ _⟩
  case round =>
    obtain ⟨k, ns, hk, rfl, hkey, hF, hB⟩ := hrel
    have hnl : ns.length = k := by
      have := congrArg List.length hkey
      simp only [List.length_map, List.length_take] at this
      have := hb.len
      omega
    by_cases hlt : k < n
    · obtain ⟨b, off, r, rfl, hPb, hr, er, hc⟩ := (hb.keep fun i hi => hB.block i (hP i hi)).cell hlt
      have hki : (k : Int) < (n : Int) := by omega
      have hk0 : (0 : Int) ≤ (k : Int) := by omega
      have hsz := hB.size
      have hfr := hf r (List.mem_of_getElem? hr)
      have HK := Lib.hid (show (ns.map ekey ++ [ekey r]) = (l.take (k + 1)).map ekey from by rw [take_succ_get l k r hr, List.map_append, hkey]; rfl)
      obtain ⟨a0, a1, a2, A1, n1, c1, ds, b0, b1, b2, b3, b4, b5⟩ := r
      have x0 := hc 0 _ rfl
      have x1 := hc 1 _ rfl
      have x2 := hc 2 _ rfl
      have x3 := hc 3 _ rfl
      have x4 := hc 4 _ rfl
      have x5 := hc 5 _ rfl
      have x6 := hc 6 _ rfl
      have x7 := hc 7 _ rfl
      have x8 := hc 8 _ rfl
      have x9 := hc 9 _ rfl
      rw [Nat.add_zero] at x0
      have HNL := Lib.hid hnl
      have HF := Lib.hid hF
      clear hkey hr hc hnl hF
      go_wp2_with fail
      refine (copyEvent_any ⟨a0, a1, a2, A1, n1, c1, ds, b0, b1, b2, b3, b4, b5⟩ P wr er (fun i hi => Nat.lt_of_lt_of_le (hP i hi) hsz) hfr).mono ?_
      rintro e w2 ⟨r', rfl, hek, hev, hem, k2⟩
      have hem' : r'.n ≤ 1099511627000 := by rw [hem]; exact hfr
      have HEK := Lib.hid hek
      have HEV := Lib.hid hev
      have z2 := k2.size
      have hz3 : w.heap.size ≤ w2.heap.size := by omega
      have hrow : w2.ownsRow w.heap.size 37 10 u3 k (ecs ns) := by
        have := (HF.out.below k2).row
        rwa [HNL.out] at this
      clear hek hev hem x0 x1 x2 x3 x4 x5 x6 x7 x8 x9
      simp only [ec]
      go_wp2_with (at_builtin; (refine wpList_app1 w2 #[.int .i64 r'.a0, .int .i64 r'.a1, .int .i64 r'.a2, .slice r'.A r'.n r'.c, .int .i64 r'.b0, .int .i64 r'.b1, .int .i64 r'.b2, .int .i64 r'.b3, .int .i64 r'.b4, .int .i64 r'.b5] rfl _ _ 52 rfl w.heap.size 37 (.agg #[.int .i64 0, .int .i64 0, .int .i64 0, .slice none 0 0, .int .i64 0, .int .i64 0, .int .i64 0, .int .i64 0, .int .i64 0, .int .i64 0]) 10 96 Try.underlying52 infoEv rfl (by decide) _ k _ hrow rfl rfl rfl (fun u hu => ecs_one [r'] u (by simpa [ecs, ec] using hu)) (by omega) (by omega) hz3 ?_; intro g cap w4 hown4 hgr4 hb4 hat4 _))
      have hF4 : FreshE w4 w.heap.size (.slice (some ⟨g, 0, none⟩) (k + 1) cap) (ns ++ [r']) := by
        have := HF.out.push (r := r') (g := g) (cap := cap) (w2 := w4) hsz k2 HEV.out hem' (by rw [HNL.out]; exact hown4) hgr4 hat4
        rwa [HNL.out] at this
      have HF4 := Lib.hid hF4
      have hB4 := hB.trans ((k2.mono hsz).trans hb4)
      have HB4 := Lib.hid hB4
      clear hF4 hB4 hrow hown4 hgr4 hb4 hat4 hB
      go_wp2
      go_roundw
      case rel => exact ⟨k + 1, _, by omega, by go_num, by rw [← HK.out, List.map_append, ← HEK.out]; rfl, HF4.out, HB4.out⟩
      case measure => simp [intOf]; omega
    · obtain rfl : k = n := by omega
      rw [List.take_of_length_le (Nat.le_of_eq hb.len)] at hkey
      have HK := Lib.hid hkey
      clear hkey
      go_wp2
      go_ret
      exact ⟨_, ns, rfl, HK.out, hF, hB⟩

theorem Reads.exact {w : World} {P : Nat → Prop} {size : Nat} {A : Option Addr} {n c : Nat} {xs : List Value} (h : Reads w P size A n xs) : Reads w (fun i => P i ∧ (Value.slice A n c).ownBlock = some i) size A n xs :=
  ⟨h.1, fun hn => by
    obtain ⟨b, off, e, hb, hc⟩ := h.2 hn
    exact ⟨b, off, e, ⟨hb, by rw [e]; rfl⟩, hc⟩⟩

set_option maxHeartbeats 800000 in
set_option maxRecDepth 100000 in
theorem spoilEvents_in (A : Option Addr) (n c : Nat) (l : List Ev) (n₀ M : Nat) (w : World) (h : Reads w (fun i => n₀ ≤ i ∧ i < M ∧ CellsAt w i) 10 A n (ecs l)) (hd : ∀ e ∈ l, Soft w (fun i => n₀ ≤ i ∧ i < M ∧ some i ≠ (Value.slice A n c).ownBlock) e.A e.n ∧ e.n ≤ 1099511627000) (hn : n ≤ 1099511627000) :
    Calls Try.prog 48 #[.slice A n c] w fun e w' => (∃ u, e = .returned u) ∧ Spoilt (fun i => n₀ ≤ i ∧ i < M) w w' := by
  have hlen : l.length = n := by have := h.1; rw [ecs_length] at this; omega
  have hat : ∀ k r, l[k]? = some r → ∃ b off, A = some ⟨b, off, none⟩ ∧ (n₀ ≤ b ∧ b < M) ∧ CellsAt w b ∧ ∀ j u, (ec r)[j]? = some u → w.cell? ⟨b, off + k * 10 + j, none⟩ = some u := fun k r hr => by
    have hkn : k < n := by have := (List.getElem?_eq_some_iff.1 hr).1; omega
    obtain ⟨b, off, e, hb, hc⟩ := h.2 (by omega)
    refine ⟨b, off, e, ⟨hb.1, hb.2.1⟩, hb.2.2, fun j u hu => ?_⟩
    have hj : j < 10 := by have := (List.getElem?_eq_some_iff.1 hu).1; rwa [ec_length] at this
    have := hc (k * 10 + j) u (by rw [ecs_get l k j r hr hj]; exact hu)
    rwa [← Nat.add_assoc] at this
  have HL := Lib.hid hlen
  have HD := Lib.hid hd
  have HA := Lib.hid hat
  clear hlen hd hat h
  go_enter Try.func48, Try.ntmps48
  go_wp2
  go_loopw [2] (fun i wr => ∃ k : Nat, k ≤ n ∧ i = .int .i64 k ∧ Spoilt (fun i => n₀ ≤ i ∧ i < M) w wr ∧ ∀ j r b off, k ≤ j → l[j]? = some r → A = some ⟨b, off, none⟩ → wr.cell? ⟨b, off + j * 10 + 3, none⟩ = some (.slice r.A r.n r.c)) (fun i _ => n - (intOf i).toNat)
  case atStart =>
    refine ⟨0, by omega, rfl, Spoilt.refl _ _, fun j r b off _ hr hA => ?_⟩
    obtain ⟨b', off', e, _, _, hj⟩ := HA.out j r hr
    rw [hA] at e
    cases e
    exact hj 3 _ rfl
  case round =>
    obtain ⟨k, hk, rfl, hs, hrest⟩ := hrel
    by_cases hlt : k < n
    · obtain ⟨r, hr⟩ : ∃ r, l[k]? = some r := ⟨_, List.getElem?_eq_getElem (by rw [HL.out]; exact hlt)⟩
      obtain ⟨b, off, rfl, hgb, hgc, hgj⟩ := HA.out k r hr
      have hki : (k : Int) < (n : Int) := by omega
      have hk0 : (0 : Int) ≤ (k : Int) := by omega
      have c3 := hrest k r b off (Nat.le_refl _) hr rfl
      have hsome : ∀ j, j < 10 → (wr.cell? ⟨b, off + k * 10 + j, none⟩).isSome = true := fun j hj => hs.some_ _ _ (by rw [hgj j _ (List.getElem?_eq_getElem (by rw [ec_length]; exact hj))]; rfl)
      have hsoft : Soft wr (fun i => (n₀ ≤ i ∧ i < M) ∧ i ≠ b) r.A r.n := ((HD.out r (List.mem_of_getElem? hr)).1.spoilt hs).more fun i hi => ⟨⟨hi.1, hi.2.1⟩, fun e => hi.2.2 (by rw [e]; rfl)⟩
      have hfit := (HD.out r (List.mem_of_getElem? hr)).2
      have HREST := Lib.hid hrest
      have HS := Lib.hid hs
      have HSOME := Lib.hid hsome
      have hcr : CellsAt wr b := hs.kept b hgc
      clear hrest hs hr hsome hgj
      go_wp2_with fail
      refine (spoilInts_any (fun i => (n₀ ≤ i ∧ i < M) ∧ i ≠ b) r.A r.n r.c wr hsoft hfit).mono ?_
      rintro e w1 ⟨⟨u, rfl⟩, hs1⟩
      have hg1 : ∀ j, w1.cell? ⟨b, j, none⟩ = wr.cell? ⟨b, j, none⟩ := fun j => World.cell?_of_block (w := wr) (hs1.far b (fun e => e.2 rfl))
      obtain ⟨u2', hu2⟩ := Option.isSome_iff_exists.1 (HSOME.out 2 (by omega))
      obtain ⟨u8', hu8⟩ := Option.isSome_iff_exists.1 (HSOME.out 8 (by omega))
      have d2 := (hg1 (off + k * 10 + 2)).trans hu2
      have d8 := (hg1 (off + k * 10 + 8)).trans hu8
      have hf2 := (hs1.kept b hcr).froz (off + k * 10 + 2)
      have hf8 := (hs1.kept b hcr).froz (off + k * 10 + 8)
      obtain ⟨w4, hw4⟩ : ∃ w4, w4 = (w1.setCell ⟨b, off + k * 10 + 2, none⟩ (.int .i64 77)).setCell ⟨b, off + k * 10 + 8, none⟩ (.int .i64 (-7)) := ⟨_, rfl⟩
      have hs4 : Spoilt (fun i => n₀ ≤ i ∧ i < M) w w4 := by
        rw [hw4]
        exact (HS.out.trans (hs1.more fun i hi => hi.1)).trans ((Spoilt.setCell _ _ _ _ hgb).trans (Spoilt.setCell _ _ _ _ hgb))
      have hrest4 : ∀ j r' b' off', k + 1 ≤ j → l[j]? = some r' → some (⟨b, off, none⟩ : Addr) = some ⟨b', off', none⟩ → w4.cell? ⟨b', off' + j * 10 + 3, none⟩ = some (.slice r'.A r'.n r'.c) := fun j r' b' off' hj hr' e => by
        cases e
        have x3 := HREST.out j r' b off (by omega) hr' rfl
        rw [hw4, cell_other (by omega), cell_other (by omega)]
        exact (hg1 _).trans x3
      have H4 := Lib.hid hs4
      have HREST4 := Lib.hid hrest4
      have HW4 := Lib.hid hw4
      clear hs4 hrest4 hw4 hg1 c3
      go_wp2
      go_roundw
      case rel => exact ⟨k + 1, by omega, by go_num, by rw [← HW4.out]; exact H4.out, by rw [← HW4.out]; exact HREST4.out⟩
      case measure => simp [intOf]; omega
    · obtain rfl : k = n := by omega
      go_wp2
      go_end0
      exact ⟨⟨_, rfl⟩, hs⟩

theorem MgIn.softV {w : World} {n₀ M : Nat} {m : Mg} (h : MgIn w n₀ M m) : Soft w (fun i => n₀ ≤ i ∧ i < M ∧ some i ≠ (Value.slice m.EA m.en m.ecap).ownBlock) m.VA m.vn :=
  (h.vec.soft fun i hi => hi.2.2.1).more fun i hi => ⟨hi.1, hi.2.1, hi.2.2.2⟩
theorem MgIn.afterV {w w1 : World} {n₀ M : Nat} {m : Mg} (h : MgIn w n₀ M m) (hs : Spoilt (fun i => n₀ ≤ i ∧ i < M ∧ some i ≠ (Value.slice m.EA m.en m.ecap).ownBlock) w w1) :
    Reads w1 (fun i => n₀ ≤ i ∧ i < M ∧ CellsAt w1 i) 10 m.EA m.en (ecs m.evs) ∧ ∀ e ∈ m.evs, Soft w1 (fun i => n₀ ≤ i ∧ i < M ∧ some i ≠ (Value.slice m.EA m.en m.ecap).ownBlock) e.A e.n ∧ e.n ≤ 1099511627000 :=
  ⟨((h.evs.exact (c := m.ecap)).keep fun i hi => hs.far i fun e => e.2.2 hi.2.symm).more fun i hi => ⟨hi.1.1, hi.1.2.1, hs.kept i hi.1.2.2⟩,
   fun e he => ⟨(((h.deps e he).1.soft fun i hi => hi.2.2.1).more fun i hi => ⟨hi.1, hi.2.1, hi.2.2.2⟩).spoilt hs, h.fits.2.2 e he⟩⟩

/-- A block of cells. -/
def BoxV (W : World) (B : Nat) (vs : List Value) (t : TypeId) : Prop := W.heap[B]? = some (.cells vs.toArray t (0, 0))
theorem BoxV.cell {W : World} {B : Nat} {vs : List Value} {t : TypeId} (h : BoxV W B vs t) (j : Nat) (u : Value) (hu : vs[j]? = some u) : W.cell? ⟨B, j, none⟩ = some u := by
  unfold BoxV at h
  simp [World.cell?, h, hu]
theorem BoxV.froz {W : World} {B : Nat} {vs : List Value} {t : TypeId} (h : BoxV W B vs t) (j : Nat) : W.frozen? ⟨B, j, none⟩ = false := by
  unfold BoxV at h
  simp [World.frozen?, h]
theorem BoxV.set {W : World} {B : Nat} {vs : List Value} {t : TypeId} (h : BoxV W B vs t) (j : Nat) (u : Value) : BoxV (W.setCell ⟨B, j, none⟩ u) B (vs.set j u) t := by
  unfold BoxV at *
  simp only [World.setCell, Array.getElem?_modify, h]
  simp
theorem BoxV.kept {W W' : World} {B : Nat} {vs : List Value} {t : TypeId} (h : BoxV W B vs t) (hh : W'.heap[B]? = W.heap[B]?) : BoxV W' B vs t := hh.trans h

set_option maxHeartbeats 1600000 in
set_option maxRecDepth 100000 in
theorem copyMsg_any (m : Mg) (P : Nat → Prop) (w : World) (h : MgR w P m) (hP : ∀ i, P i → i < w.heap.size) (hf : Fits m) :
    Calls Try.prog 50 #[.agg (mc m).toArray] w fun r w' => ∃ m', r = .returned (.agg (mc m').toArray) ∧ mkey m' = mkey m ∧ MgIn w' w.heap.size w'.heap.size m' ∧ Below w.heap.size w w' := by
  obtain ⟨kind, from_, to_, VA, vn, vc, vec, EA, en, ecap, evs⟩ := m
  obtain ⟨hv, ⟨hv1, hv2, hv3⟩, he, he1, he2, he3⟩ := h
  obtain ⟨hf1, hf2, hf3⟩ := hf
  simp only at hv hv1 hv2 hv3 he he1 he2 he3 hf1 hf2 hf3
  obtain ⟨W0, hW0⟩ : ∃ W0, W0 = (w.alloc (.cells #[.int .i64 kind, .int .i64 from_, .int .i64 to_, .slice VA vn vc, .slice EA en ecap] 54)).alloc (.cells #[.int .i64 0, .int .i64 0, .int .i64 0, .slice none 0 0, .slice none 0 0] 54) := ⟨_, rfl⟩
  have k0 : Below w.heap.size w W0 := by rw [hW0]; exact ((Below.refl _ _).alloc (Nat.le_refl _) _).alloc (by simp) _
  have z0 : W0.heap.size = w.heap.size + 2 := by rw [hW0]; simp
  have B0 : BoxV W0 w.heap.size [.int .i64 kind, .int .i64 from_, .int .i64 to_, .slice VA vn vc, .slice EA en ecap] 54 := by
    rw [hW0]
    show ((w.alloc _).alloc _).heap[w.heap.size]? = _
    rw [Below.heap_alloc _ _ _ (by simp)]
    exact heap_alloc_new w _
  have R0 : BoxV W0 (w.heap.size + 1) [.int .i64 0, .int .i64 0, .int .i64 0, .slice none 0 0, .slice none 0 0] 54 := by
    rw [hW0]
    have := heap_alloc_new (w.alloc (.cells #[.int .i64 kind, .int .i64 from_, .int .i64 to_, .slice VA vn vc, .slice EA en ecap] 54)) (.cells #[.int .i64 0, .int .i64 0, .int .i64 0, .slice none 0 0, .slice none 0 0] 54)
    rw [World.size_alloc] at this
    exact this
  go_enter Try.func50, Try.ntmps50
  simp only [mc]
  go_wp2_with fail
  rw [← hW0]
  clear hW0
  refine (copyInts_any P VA vn vc vec W0 (hv.keep fun i hi => k0.block i (hP i hi)) (fun i hi => Nat.lt_of_lt_of_le (hP i hi) k0.size) (by omega)).mono ?_
  rintro e w1 ⟨v1, rfl, o1, b1⟩
  obtain ⟨V1, d1, rfl, hd1, hd1', _⟩ := own_form o1
  have z1 := b1.size
  have B1 := B0.kept (b1.block _ (by omega))
  have R1 := R0.kept (b1.block _ (by omega))
  have p3 := B1.cell 3 _ rfl
  have p4 := B1.cell 4 _ rfl
  have f3 := B1.froz 3
  have k1 := next_below k0 b1
  have ltV := o1.lt
  have nilV := own_nil o1
  have sV := own_soft' o1
  clear B0 R0 b1 o1 k0
  go_wp2_with fail
  obtain ⟨w2, hw2⟩ : ∃ W, W = w1.setCell ⟨w.heap.size, 3, none⟩ (.slice V1 vn d1) := ⟨_, rfl⟩
  have z2 : w2.heap.size = w1.heap.size := by rw [hw2]; simp
  have B2 : BoxV w2 w.heap.size [.int .i64 kind, .int .i64 from_, .int .i64 to_, .slice V1 vn d1, .slice EA en ecap] 54 := by rw [hw2]; exact B1.set 3 _
  have R2 : BoxV w2 (w.heap.size + 1) _ _ := R1.kept (by rw [hw2]; exact Below.heap_setCell _ _ _ _ (by show w.heap.size + 1 ≠ w.heap.size; omega))
  have k2 : Below w.heap.size w w2 := by rw [hw2]; exact k1.setCell (p := ⟨w.heap.size, 3, none⟩) (Nat.le_refl _) _
  have hh2 : ∀ i, i ≠ w.heap.size → w2.heap[i]? = w1.heap[i]? := fun i hi => by rw [hw2]; exact Below.heap_setCell _ _ _ _ (by exact hi)
  rw [← hw2]
  clear hw2 B1 R1 p3 p4 f3 k1
  refine (copyEvents_any P EA en ecap evs w2 (he.keep fun i hi => k2.block i (hP i hi)) (fun i hi => Nat.lt_of_lt_of_le (hP i hi) k2.size) (by omega) hf3).mono ?_
  rintro e w3 ⟨v3, ns, rfl, hkeys, F3, b3⟩
  have hnl : ns.length = en := by
    have := congrArg List.length hkeys
    simp only [List.length_map] at this
    rw [this, he.len]
  have o3 := F3.row
  rw [hnl] at o3
  obtain ⟨E1, e1, rfl, hE1, hE1', _⟩ := own_form o3
  have z3 := b3.size
  have B3 := B2.kept (b3.block _ (by omega))
  have R3 := R2.kept (b3.block _ (by omega))
  have k3 := next_below k2 b3
  have p4 := B3.cell 4 _ rfl
  have f4 := B3.froz 4
  have ltE := o3.lt
  have nilE := own_nil o3
  have sE := own_soft o3
  have dE := F3.deps
  obtain ⟨w4, hw4⟩ : ∃ W, W = w3.setCell ⟨w.heap.size, 4, none⟩ (.slice E1 en e1) := ⟨_, rfl⟩
  have B4 : BoxV w4 w.heap.size [.int .i64 kind, .int .i64 from_, .int .i64 to_, .slice V1 vn d1, .slice E1 en e1] 54 := by rw [hw4]; exact B3.set 4 _
  have R4 : BoxV w4 (w.heap.size + 1) _ _ := R3.kept (by rw [hw4]; exact Below.heap_setCell _ _ _ _ (by show w.heap.size + 1 ≠ w.heap.size; omega))
  have k4 : Below w.heap.size w w4 := by rw [hw4]; exact k3.setCell (p := ⟨w.heap.size, 4, none⟩) (Nat.le_refl _) _
  have z4 : w4.heap.size = w3.heap.size := by rw [hw4]; simp
  have hh4 : ∀ i, i ≠ w.heap.size → w4.heap[i]? = w3.heap[i]? := fun i hi => by rw [hw4]; exact Below.heap_setCell _ _ _ _ (by exact hi)
  have HW4 := Lib.hid hw4
  clear hw4 B2 R2 B3 R3 k2 k3 F3 o3
  go_upto_region 3 with fail
  rw [← HW4.out]
  have q0 := B4.cell 0 _ rfl
  have q1 := B4.cell 1 _ rfl
  have q2 := B4.cell 2 _ rfl
  have q3 := B4.cell 3 _ rfl
  have q4 := B4.cell 4 _ rfl
  have t0 := R4.cell 0 _ rfl
  have t1 := R4.cell 1 _ rfl
  have t2 := R4.cell 2 _ rfl
  have t3 := R4.cell 3 _ rfl
  have t4 := R4.cell 4 _ rfl
  have g0 := R4.froz 0
  have g1 := R4.froz 1
  have g2 := R4.froz 2
  have g3 := R4.froz 3
  have g4 := R4.froz 4
  obtain ⟨y0, y1, y2, y3, y4⟩ := set5_cells (W := w4) (g := w.heap.size + 1) (u0 := .int .i64 kind) (u1 := .int .i64 from_) (u2 := .int .i64 to_) (u3 := .slice V1 vn d1) (u4 := .slice E1 en e1) (fun j hj => by
    match j, hj with
    | 0, _ => rw [t0]; rfl
    | 1, _ => rw [t1]; rfl
    | 2, _ => rw [t2]; rfl
    | 3, _ => rw [t3]; rfl
    | 4, _ => rw [t4]; rfl)
  have hh := fun i (hi : i ≠ w.heap.size + 1) => set5_heap w4 (w.heap.size + 1) i (.int .i64 kind) (.int .i64 from_) (.int .i64 to_) (.slice V1 vn d1) (.slice E1 en e1) hi
  have hs5 := set5_size w4 (w.heap.size + 1) (.int .i64 kind) (.int .i64 from_) (.int .i64 to_) (.slice V1 vn d1) (.slice E1 en e1)
  have B6 : Below w.heap.size w (set5 w4 (w.heap.size + 1) (.int .i64 kind) (.int .i64 from_) (.int .i64 to_) (.slice V1 vn d1) (.slice E1 en e1)) := set5_below k4 (by omega)
  obtain ⟨w5, hw5⟩ : ∃ w5, w5 = set5 w4 (w.heap.size + 1) (.int .i64 kind) (.int .i64 from_) (.int .i64 to_) (.slice V1 vn d1) (.slice E1 en e1) := ⟨_, rfl⟩
  rw [← hw5] at hh hs5 B6
  have h35 : ∀ i, W0.heap.size ≤ i → i < w3.heap.size → w5.heap[i]? = w3.heap[i]? := fun i h1 h2 => (hh i (by omega)).trans (hh4 i (by omega))
  have h15 : ∀ i, W0.heap.size ≤ i → i < w1.heap.size → w5.heap[i]? = w1.heap[i]? := fun i h1 h2 => (h35 i h1 (by omega)).trans ((b3.block i (by omega)).trans (hh2 i (by omega)))
  have mg : MgIn w5 w.heap.size w5.heap.size ⟨kind, from_, to_, V1, vn, d1, vec, E1, en, e1, ns⟩ := by
    refine ⟨?_, ?_, fun r hr => ?_, ⟨⟨hd1, hd1', nilV⟩, hE1, hE1', nilE⟩, hf1, hf2, fun r hr => (dE r hr).2⟩
    · exact ((show RN w1 _ V1 vn vec from sV).keep fun i hi => h15 i hi.2.1 hi.2.2.1).more fun i hi => ⟨by omega, by omega, hi.2.2.2.keep (h15 i hi.2.1 hi.2.2.1), fun e => by
        have h1 := (ltV i hi.1).2
        have h2 := (ltE i e.symm).1
        omega⟩
    · exact Reads.more (Reads.keep sE fun i hi => h35 i (by omega) hi.2.1) fun i hi => ⟨by omega, by omega, hi.2.2.keep (h35 i (by omega) hi.2.1)⟩
    · exact ((dE r hr).1.keep fun i hi => h35 i (by omega) hi.2.1).more fun i hi => ⟨by omega, by omega, hi.2.2.1.keep (h35 i (by omega) hi.2.1), hi.2.2.2⟩
  have hkk : mkey ⟨kind, from_, to_, V1, vn, d1, vec, E1, en, e1, ns⟩ = mkey ⟨kind, from_, to_, VA, vn, vc, vec, EA, en, ecap, evs⟩ := by simp only [mkey, hkeys]
  have M1 := Lib.hid mg
  have M2 := Lib.hid hkk
  have HW5 := Lib.hid hw5
  clear mg hkk hkeys hh h35 h15 hw5 sV sE dE B4 R4 b3 hh2 hh4
  go_wp2
  refine bodyPost_ret (v := .agg #[.int .i64 kind, .int .i64 from_, .int .i64 to_, .slice V1 vn d1, .slice E1 en e1]) ?_ rfl ?_
  · unfold set5 at y0 y1 y2 y3 y4
    simp [results, Try.results50, go_sem, y0, y1, y2, y3, y4]
  · have e5 := HW5.out
    unfold set5 at e5
    rw [← e5]
    exact ⟨⟨kind, from_, to_, V1, vn, d1, vec, E1, en, e1, ns⟩, rfl, M2.out, M1.out, B6⟩
end Go.Proofs.Ytcidmlpjobdakaa
