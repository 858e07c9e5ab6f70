/- Lists of entries: in memory of their own, the same, copied, written over. -/
import Derived.Test.YtcidmlpjobdakaaSpA
namespace Go.Proofs.Ytcidmlpjobdakaa
set_option linter.unusedSimpArgs false
set_option linter.unusedVariables false
set_option linter.unnecessarySimpa false
open Go.RowKit

/-- Entries in memory of their own, from n₀ on: the row apart from what the entries hold. -/
structure Fresh (w : World) (n₀ : Nat) (v : Value) (ns : List En) : Prop where
  row : w.ownsRow n₀ 39 13 v ns.length (ns.flatMap nc)
  deps : ∀ r ∈ ns, EvR w (fun i => n₀ ≤ i ∧ i < w.heap.size ∧ CellsAt w i ∧ some i ≠ v.ownBlock) r.e ∧ r.e.n ≤ 1099511627000
theorem Fresh.nil (w : World) (n₀ : Nat) : Fresh w n₀ (.slice none 0 0) [] := ⟨World.ownsRow_nil _ _ _ _, fun r h => by cases h⟩
theorem Fresh.keep {w w' : World} {n₀ : Nat} {v : Value} {ns : List En} (h : Fresh w n₀ v ns) (hs : w.heap.size ≤ w'.heap.size) (hh : ∀ i, n₀ ≤ i → i < w.heap.size → CellsAt w i → w'.heap[i]? = w.heap[i]?) : Fresh w' n₀ v ns := by
  refine ⟨?_, fun r hr => ?_⟩
  · obtain ⟨h1, h2⟩ := h.row
    refine ⟨h1, ?_⟩
    rcases h2 with h2 | ⟨g, cap, cur, hv, hb, hg, r⟩
    · exact .inl h2
    · exact .inr ⟨g, cap, cur, hv, hb, (hh g hb (Array.getElem?_eq_some_iff.1 hg).1 ⟨_, _, hg⟩).trans hg, r⟩
  · obtain ⟨h1, h2⟩ := h.deps r hr
    exact ⟨(h1.keep fun i hi => hh i hi.1 hi.2.1 hi.2.2.1).more fun i hi => ⟨hi.1, Nat.lt_of_lt_of_le hi.2.1 hs, hi.2.2.1.keep (hh i hi.1 hi.2.1 hi.2.2.1), hi.2.2.2⟩, h2⟩
theorem Fresh.below {w w' : World} {n₀ : Nat} {v : Value} {ns : List En} (h : Fresh w n₀ v ns) (hb : Below w.heap.size w w') : Fresh w' n₀ v ns := h.keep hb.size fun i _ hi _ => hb.block i hi
theorem Fresh.base {w : World} {n₀ n₁ : Nat} {v : Value} {ns : List En} (h : Fresh w n₀ v ns) (hn : n₁ ≤ n₀) : Fresh w n₁ v ns :=
  ⟨own_base h.row hn, fun r hr => ⟨(h.deps r hr).1.more fun i hi => ⟨Nat.le_trans hn hi.1, hi.2⟩, (h.deps r hr).2⟩⟩
theorem ncs_append (a b : List En) : (a ++ b).flatMap nc = a.flatMap nc ++ b.flatMap nc := by simp
theorem Fresh.list {w : World} {n₀ : Nat} {A : Option Addr} {n c : Nat} {ns : List En} (h : Fresh w n₀ (.slice A n c) ns) : RL w (fun i => n₀ ≤ i ∧ i < w.heap.size) A n ns ∧ ns.length = n := by
  have hl := h.row.1
  rw [flat_length nc_length] at hl
  have hn : ns.length = n := by
    rcases h.row.2 with ⟨h2, h3⟩ | ⟨g, cap, cur, hv, _⟩
    · cases h2; exact h3
    · injection hv with _ e _; exact e.symm
  refine ⟨⟨?_, fun r hr => (h.deps r hr).1.more fun i hi => ⟨hi.1, hi.2.1⟩⟩, hn⟩
  have := own_reads (hn ▸ h.row)
  exact this
/-- One more entry: its copy made, then the row grown. -/
theorem Fresh.push {w w1 w2 : World} {n₀ : Nat} {v : Value} {ns : List En} {r : En} {g cap : Nat} (h : Fresh w n₀ v ns) (hn₀ : n₀ ≤ w.heap.size) (hB : Below w.heap.size w w1) (hr : EvR w1 (New w w1) r.e) (hf : r.e.n ≤ 1099511627000)
    (ho : w2.ownsRow n₀ 39 13 (.slice (some ⟨g, 0, none⟩) (ns.length + 1) cap) (ns.length + 1) (ns.flatMap nc ++ nc r)) (hgr : w1.grownBy w2 v.ownBlock) (hat : v.ownBlock = some g ∨ w1.heap.size ≤ g) :
    Fresh w2 n₀ (.slice (some ⟨g, 0, none⟩) (ns.length + 1) cap) (ns ++ [r]) := by
  have z1 := hB.size
  have z2 := hgr.size
  have hvb : ∀ i, some i = v.ownBlock → i < w.heap.size := fun i e => (h.row.lt i e.symm).2
  refine ⟨?_, fun x hx => ?_⟩
  · rw [ncs_append, List.length_append, List.length_singleton, show [r].flatMap nc = nc r from by simp]
    exact ho
  · rcases List.mem_append.1 hx with hx | hx
    · obtain ⟨h5, h6⟩ := h.deps x hx
      have hh : ∀ i, (n₀ ≤ i ∧ i < w.heap.size ∧ CellsAt w i ∧ some i ≠ v.ownBlock) → w2.heap[i]? = w.heap[i]? := fun i hi => (hgr.block i (by omega) hi.2.2.2).trans (hB.block i hi.2.1)
      refine ⟨(h5.keep hh).more fun i hi => ⟨hi.1, by omega, hi.2.2.1.keep (hh i hi), fun e => ?_⟩, h6⟩
      have e2 : i = g := Option.some.inj e
      rcases hat with h7 | h7
      · exact hi.2.2.2 (by rw [e2, h7])
      · omega
    · obtain rfl := List.mem_singleton.1 hx
      have hne : ∀ i, New w w1 i → some i ≠ v.ownBlock := fun i hi e => by have := hvb i e; have := hi.1; omega
      have hh : ∀ i, New w w1 i → w2.heap[i]? = w1.heap[i]? := fun i hi => hgr.block i hi.2.1 (hne i hi)
      refine ⟨(hr.keep hh).more fun i hi => ⟨by have := hi.1; omega, by have := hi.2.1; omega, hi.2.2.keep (hh i hi), fun e => ?_⟩, hf⟩
      have e2 : i = g := Option.some.inj e
      rcases hat with h7 | h7
      · exact hne i hi (by rw [e2, h7])
      · have := hi.2.1; omega
theorem nkeys_at {xs ys : List En} (h : xs.map nkey = ys.map nkey) {k : Nat} {r s : En} (hr : xs[k]? = some r) (hs : ys[k]? = some s) : nkey r = nkey s := by
  have := congrArg (fun l => l[k]?) h
  simp only [List.getElem?_map, hr, hs, Option.map_some] at this
  exact Option.some.inj this

set_option maxHeartbeats 1600000 in
set_option maxRecDepth 100000 in
theorem sameEntries_yes (P Q : Nat → Prop) (A : Option Addr) (n c : Nat) (xs : List En) (B : Option Addr) (d : Nat) (ys : List En) (w : World) (ha : RL w P A n xs) (hb : RL w Q B n ys) (hk : xs.map nkey = ys.map nkey)
    (hP : ∀ i, P i → i < w.heap.size) (hQ : ∀ i, Q i → i < w.heap.size) (hn : n ≤ 9223372036854775807) :
    Calls Try.prog 20 #[.slice A n c, .slice B n d] w fun r w' => r = .returned (.bool true) ∧ Below w.heap.size w w' := by
  go_enter Try.func20, Try.ntmps20
  go_wp2
  go_loopw [5] (fun i wr => ∃ k : Nat, k ≤ n ∧ i = .int .i64 k ∧ Below w.heap.size w wr) (fun i _ => n - (intOf i).toNat)
  case atStart => exact ⟨0, by omega, rfl, Below.refl _ _⟩
  case round =>
    obtain ⟨k, hk', rfl, hB⟩ := hrel
    by_cases hlt : k < n
    · obtain ⟨b, off, r, rfl, _, hr, er, hc⟩ := (ha.keep fun i hi => hB.block i (hP i hi)).cell hlt
      obtain ⟨b', off', s, rfl, _, hs, es, hd⟩ := (hb.keep fun i hi => hB.block i (hQ i hi)).cell hlt
      have hkey := nkeys_at hk hr hs
      obtain ⟨er0, void, u0, u1⟩ := r
      obtain ⟨es0, void', v0, v1⟩ := s
      simp only [nkey, Prod.mk.injEq] at hkey
      obtain ⟨hkey, rfl, rfl, rfl⟩ := hkey
      have hid := fun W => equalId u0 u1 W
      have hki : (k : Int) < (n : Int) := by omega
      have hk0 : (0 : Int) ≤ (k : Int) := by omega
      obtain ⟨ι, W, hne, hW0, hWB, hWall⟩ := family wr.heap.size wr
      have hPr : ∀ i, P i → i < wr.heap.size := fun i hi => Nat.lt_of_lt_of_le (hP i hi) hB.size
      have hQr : ∀ i, Q i → i < wr.heap.size := fun i hi => Nat.lt_of_lt_of_le (hQ i hi) hB.size
      have cr : ∀ j u, (nc ⟨er0, void, u0, u1⟩)[j]? = some u → ∀ m, (W m).cell? ⟨b, off + k * 13 + j, none⟩ = some u := fun j u hu m =>
        ((hWB m).cell (p := ⟨b, off + k * 13 + j, none⟩) (World.block_lt_of_cell? _ _ (hc j u hu))).trans (hc j u hu)
      have cs : ∀ j u, (nc ⟨es0, void, u0, u1⟩)[j]? = some u → ∀ m, (W m).cell? ⟨b', off' + k * 13 + j, none⟩ = some u := fun j u hu m =>
        ((hWB m).cell (p := ⟨b', off' + k * 13 + j, none⟩) (World.block_lt_of_cell? _ _ (hd j u hu))).trans (hd j u hu)
      have r0 := cr 0 _ rfl
      have r1 := cr 1 _ rfl
      have r2 := cr 2 _ rfl
      have r3 := cr 3 _ rfl
      have r4 := cr 4 _ rfl
      have r5 := cr 5 _ rfl
      have r6 := cr 6 _ rfl
      have r7 := cr 7 _ rfl
      have r8 := cr 8 _ rfl
      have r9 := cr 9 _ rfl
      have r10 := cr 10 _ rfl
      have r11 := cr 11 _ rfl
      have r12 := cr 12 _ rfl
      have s0 := cs 0 _ rfl
      have s1 := cs 1 _ rfl
      have s2 := cs 2 _ rfl
      have s3 := cs 3 _ rfl
      have s4 := cs 4 _ rfl
      have s5 := cs 5 _ rfl
      have s6 := cs 6 _ rfl
      have s7 := cs 7 _ rfl
      have s8 := cs 8 _ rfl
      have s9 := cs 9 _ rfl
      have s10 := cs 10 _ rfl
      have s11 := cs 11 _ rfl
      have s12 := cs 12 _ rfl
      rw [Nat.add_zero] at r0 s0
      have ER := Lib.hid fun m => er.keep fun i hi => (hWB m).block i (hPr i hi)
      have ES := Lib.hid fun m => es.keep fun i hi => (hWB m).block i (hQr i hi)
      have HP := Lib.hid fun m => fun i (hi : P i) => Nat.lt_of_lt_of_le (hPr i hi) (hWB m).size
      have HQ := Lib.hid fun m => fun i (hi : Q i) => Nat.lt_of_lt_of_le (hQr i hi) (hWB m).size
      have HWB := Lib.hid hWB
      have HWall := Lib.hid hWall
      clear hWB hWall hr hs hc hd er es cr cs hPr hQr
      go_wp2_with fail
      refine wp_region_family (by kernel_rfl) (by kernel_rfl) hW0 ?_
      repeat (go_big_quiet_step ((go_at_call 44; exact calls_family (sameEvent_yes P Q er0 es0 _ (ER.out _) (ES.out _) hkey (HP.out _) (HQ.out _)) HWB.out (Nat.le_refl _) HWall.out)))
      refine wpQuiet_nil ?_
      rintro _ ⟨nq, rfl⟩
      have B2 := next_below hB (HWB.out nq)
      clear r0 s0 r1 s1 r2 s2 r3 s3 r4 s4 r5 s5 r6 s6 r7 s7 r8 s8 r9 s9 r10 s10 r11 s11 r12 s12
      go_wp2
      go_roundw
      case rel => exact ⟨k + 1, by omega, by go_num, B2⟩
      case measure => simp [intOf]; omega
    · obtain rfl : k = n := by omega
      go_wp2
      go_ret
      exact ⟨rfl, hB⟩

set_option maxHeartbeats 800000 in
set_option maxRecDepth 100000 in
theorem spoilEntries_any (v : Value) (ns : List En) (n₀ : Nat) (w : World) (h : Fresh w n₀ v ns) :
    Calls Try.prog 22 #[v] w fun e w' => (∃ u, e = .returned u) ∧ Below n₀ w w' := by
  obtain ⟨A, c, rfl, hc1, hc2, _⟩ := own_form h.row
  obtain ⟨n, hn⟩ : ∃ n, n = ns.length := ⟨_, rfl⟩
  have hrow := h.row
  have hdep := h.deps
  rw [← hn] at hc1 hrow hdep ⊢
  have hget : ∀ k, k < n → ∃ r, ns[k]? = some r := fun k hk => ⟨_, List.getElem?_eq_getElem (by omega)⟩
  have hat : ∀ k r, ns[k]? = some r → ∃ g, A = some ⟨g, 0, none⟩ ∧ n₀ ≤ g ∧ CellsAt w g ∧ ∀ j u, (nc r)[j]? = some u → w.cell? ⟨g, k * 13 + j, none⟩ = some u := fun k r hr => by
    have hkn : k < n := by have := (List.getElem?_eq_some_iff.1 hr).1; omega
    obtain ⟨g, c', e, _, _, hb, _⟩ := own_at hrow (by omega)
    injection e with e1 _ _
    refine ⟨g, e1, hb, own_cellsAt hrow (by rw [e1]; rfl), fun j u hu => ?_⟩
    have hj : j < 13 := by
      have := (List.getElem?_eq_some_iff.1 hu).1
      rwa [nc_length] at this
    have := Reads.cell (Reads.of_own hrow) e1 (j := k * 13 + j) (u := u) (by rw [flat_get nc_length ns k j _ hr hj]; exact hu)
    rwa [Nat.zero_add] at this
  have HN := Lib.hid hn
  have HR := Lib.hid hrow
  have HD := Lib.hid hdep
  have HG := Lib.hid hget
  have HA := Lib.hid hat
  clear hn hrow hdep hget hat
  go_enter Try.func22, Try.ntmps22
  go_wp2
  go_loopw [2] (fun i wr => ∃ k : Nat, k ≤ n ∧ i = .int .i64 k ∧ Spoilt (fun i => n₀ ≤ i) w wr ∧ ∀ j r g, k ≤ j → ns[j]? = some r → A = some ⟨g, 0, none⟩ → wr.cell? ⟨g, j * 13 + 3, none⟩ = some (.slice r.e.A r.e.n r.e.c) ∧ wr.cell? ⟨g, j * 13 + 10, none⟩ = some (.bool r.void)) (fun i _ => n - (intOf i).toNat)
  case atStart =>
    refine ⟨0, by omega, rfl, Spoilt.refl _ _, fun j r g _ hr hg => ?_⟩
    obtain ⟨g', e, _, _, hj⟩ := HA.out j r hr
    rw [hg] at e
    cases e
    exact ⟨hj 3 _ rfl, hj 10 _ rfl⟩
  case round =>
    obtain ⟨k, hk, rfl, hs, hrest⟩ := hrel
    by_cases hlt : k < n
    · obtain ⟨r, hr⟩ := HG.out k hlt
      obtain ⟨g, rfl, hgb, hgc, hgj⟩ := HA.out k r hr
      have hki : (k : Int) < (n : Int) := by omega
      have hk0 : (0 : Int) ≤ (k : Int) := by omega
      obtain ⟨c3, c10⟩ := hrest k r g (Nat.le_refl _) hr rfl
      have hsome : ∀ j, j < 13 → (wr.cell? ⟨g, k * 13 + j, none⟩).isSome = true := fun j hj => hs.some_ _ _ (by rw [hgj j _ (List.getElem?_eq_getElem (by rw [nc_length]; exact hj))]; rfl)
      have hdr := (HD.out r (List.mem_of_getElem? hr)).1
      have hsoft : Soft wr (fun i => n₀ ≤ i ∧ i ≠ g) r.e.A r.e.n := ((hdr.1.soft fun i hi => hi.2.2.1).spoilt hs).more fun i hi => ⟨hi.1, fun e => hi.2.2.2 (by rw [e]; rfl)⟩
      have hfit := (HD.out r (List.mem_of_getElem? hr)).2
      have HREST := Lib.hid hrest
      have HS := Lib.hid hs
      have HRR := Lib.hid hr
      have HSOME := Lib.hid hsome
      have hcr : CellsAt wr g := hs.kept g hgc
      clear hrest hs hr hsome hgj hdr
      go_wp2_with fail
      refine (spoilInts_any (fun i => n₀ ≤ i ∧ i ≠ g) r.e.A r.e.n r.e.c wr hsoft hfit).mono ?_
      rintro e w1 ⟨⟨u, rfl⟩, hs1⟩
      have hg1 : ∀ j, w1.cell? ⟨g, j, none⟩ = wr.cell? ⟨g, j, none⟩ := fun j => World.cell?_of_block (w := wr) (hs1.far g (fun e => e.2 rfl))
      have d10 := (hg1 (k * 13 + 10)).trans c10
      obtain ⟨u11, hu11⟩ := Option.isSome_iff_exists.1 (HSOME.out 11 (by omega))
      obtain ⟨u12, hu12⟩ := Option.isSome_iff_exists.1 (HSOME.out 12 (by omega))
      have d11 := (hg1 (k * 13 + 11)).trans hu11
      have d12 := (hg1 (k * 13 + 12)).trans hu12
      have hf10 := (hs1.kept g hcr).froz (k * 13 + 10)
      have hf11 := (hs1.kept g hcr).froz (k * 13 + 11)
      have hf12 := (hs1.kept g hcr).froz (k * 13 + 12)
      obtain ⟨w4, hw4⟩ : ∃ w4, w4 = ((w1.setCell ⟨g, k * 13 + 10, none⟩ (.bool (!r.void))).setCell ⟨g, k * 13 + 11, none⟩ (.int .i64 77)).setCell ⟨g, k * 13 + 12, none⟩ (.int .i64 0) := ⟨_, rfl⟩
      have hs4 : Spoilt (fun i => n₀ ≤ i) w w4 := by
        rw [hw4]
        exact (HS.out.trans (hs1.more fun i hi => hi.1)).trans (((Spoilt.setCell _ _ _ _ hgb).trans (Spoilt.setCell _ _ _ _ hgb)).trans (Spoilt.setCell _ _ _ _ hgb))
      have hrest4 : ∀ j r' g', k + 1 ≤ j → ns[j]? = some r' → some (⟨g, 0, none⟩ : Addr) = some ⟨g', 0, none⟩ → w4.cell? ⟨g', j * 13 + 3, none⟩ = some (.slice r'.e.A r'.e.n r'.e.c) ∧ w4.cell? ⟨g', j * 13 + 10, none⟩ = some (.bool r'.void) := fun j r' g' hj hr' e => by
        cases e
        obtain ⟨x3, x10⟩ := HREST.out j r' g (by omega) hr' rfl
        rw [hw4]
        refine ⟨?_, ?_⟩
        · rw [cell_other (by omega), cell_other (by omega), cell_other (by omega)]; exact (hg1 _).trans x3
        · rw [cell_other (by omega), cell_other (by omega), cell_other (by omega)]; exact (hg1 _).trans x10
      have H4 := Lib.hid hs4
      have HREST4 := Lib.hid hrest4
      have HW4 := Lib.hid hw4
      clear hs4 hrest4 hw4 hg1 c3 c10
      go_wp2
      go_roundw
      case rel => exact ⟨k + 1, by omega, by go_num, by rw [← HW4.out]; exact H4.out, by rw [← HW4.out]; exact HREST4.out⟩
      case measure => simp [intOf]; omega
    · obtain rfl : k = n := by omega
      go_wp2
      go_end0
      exact ⟨⟨_, rfl⟩, hs.below fun _ hi => hi⟩
end Go.Proofs.Ytcidmlpjobdakaa
