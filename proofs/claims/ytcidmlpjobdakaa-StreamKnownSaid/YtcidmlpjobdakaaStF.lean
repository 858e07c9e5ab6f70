/- What is handed back lies between two places of memory; SpoilEntries writes over that alone. StreamReads. -/
import Derived.Test.YtcidmlpjobdakaaStE
import Derived.Test.YtcidmlpjobdakaaStD
namespace Go.Proofs.Ytcidmlpjobdakaa
set_option linter.unusedSimpArgs false
set_option linter.unusedVariables false
set_option linter.unnecessarySimpa false
open Go.RowKit

/-- As 'Fresh', with an end. -/
structure FreshIn (w : World) (n₀ M : Nat) (v : Value) (ns : List En) : Prop where
  row : w.ownsRow n₀ 39 13 v ns.length (ns.flatMap nc)
  lt : ∀ i, v.ownBlock = some i → i < M
  deps : ∀ r ∈ ns, EvR w (fun i => n₀ ≤ i ∧ i < M ∧ CellsAt w i ∧ some i ≠ v.ownBlock) r.e ∧ r.e.n ≤ 1099511627000
theorem Fresh.inn {w : World} {n₀ : Nat} {v : Value} {ns : List En} (h : Fresh w n₀ v ns) : FreshIn w n₀ w.heap.size v ns := ⟨h.row, fun i hi => (h.row.lt i hi).2, h.deps⟩
theorem FreshIn.keep {w w' : World} {n₀ M : Nat} {v : Value} {ns : List En} (h : FreshIn w n₀ M v ns) (hh : ∀ i, n₀ ≤ i → i < M → w'.heap[i]? = w.heap[i]?) : FreshIn w' n₀ M v ns := by
  refine ⟨?_, h.lt, fun r hr => ?_⟩
  · have hlt := h.lt
    obtain ⟨h1, h2⟩ := h.row
    refine ⟨h1, ?_⟩
    rcases h2 with h2 | ⟨g, cap, cur, hv, hb, hg, r⟩
    · exact .inl h2
    · exact .inr ⟨g, cap, cur, hv, hb, (hh g hb (hlt g (by rw [hv]; rfl))).trans hg, r⟩
  · obtain ⟨h1, h2⟩ := h.deps r hr
    exact ⟨(h1.keep fun i hi => hh i hi.1 hi.2.1).more fun i hi => ⟨hi.1, hi.2.1, hi.2.2.1.keep (hh i hi.1 hi.2.1), hi.2.2.2⟩, h2⟩
theorem FreshIn.below {w w' : World} {n₀ M : Nat} {v : Value} {ns : List En} (h : FreshIn w n₀ M v ns) (hb : Below w.heap.size w w') (hM : M ≤ w.heap.size) : FreshIn w' n₀ M v ns := h.keep fun i _ hi => hb.block i (by omega)
theorem FreshIn.list {w : World} {n₀ M : Nat} {A : Option Addr} {n c : Nat} {ns : List En} (h : FreshIn w n₀ M (.slice A n c) ns) : RL w (fun i => n₀ ≤ i ∧ i < M) A n ns ∧ ns.length = n := by
  have hn : ns.length = n := by
    rcases h.row.2 with ⟨h2, h3⟩ | ⟨g, cap, cur, hv, _⟩
    · cases h2; exact h3
    · injection hv with _ e _; exact e.symm
  refine ⟨⟨?_, fun r hr => (h.deps r hr).1.more fun i hi => ⟨hi.1, hi.2.1⟩⟩, hn⟩
  have h1 := Reads.of_own (hn ▸ h.row)
  exact h1.more fun i hi => by
    have hb : (Value.slice A n c).ownBlock = some i := by cases A <;> exact hi
    exact ⟨(h.row.lt i hb).1, h.lt i hb⟩
theorem FreshIn.fits {w : World} {n₀ M : Nat} {v : Value} {ns : List En} (h : FreshIn w n₀ M v ns) : ∀ r ∈ ns, r.e.n ≤ 1099511627000 := fun r hr => (h.deps r hr).2
theorem FreshIn.form {w : World} {n₀ M : Nat} {v : Value} {ns : List En} (h : FreshIn w n₀ M v ns) : ∃ A c, v = .slice A ns.length c ∧ ns.length ≤ c ∧ c ≤ 9223372036854775807 := by
  obtain ⟨A, c, hv, h1, h2, _⟩ := own_form h.row
  exact ⟨A, c, hv, h1, h2⟩

set_option maxHeartbeats 800000 in
set_option maxRecDepth 100000 in
theorem spoilEntries_in (v : Value) (ns : List En) (n₀ M : Nat) (w : World) (h : FreshIn w n₀ M v ns) :
    Calls Try.prog 22 #[v] w fun e w' => (∃ u, e = .returned u) ∧ Spoilt (fun i => n₀ ≤ i ∧ i < M) w w' := by
  obtain ⟨A, c, rfl, hc1, hc2, _⟩ := own_form h.row
  obtain ⟨n, hn⟩ : ∃ n, n = ns.length := ⟨_, rfl⟩
  have hrow := h.row
  have hdep := h.deps
  have hlt0 := h.lt
  rw [← hn] at hc1 hrow hdep ⊢
  have hget : ∀ k, k < n → ∃ r, ns[k]? = some r := fun k hk => ⟨_, List.getElem?_eq_getElem (by omega)⟩
  have hat : ∀ k r, ns[k]? = some r → ∃ g, A = some ⟨g, 0, none⟩ ∧ (n₀ ≤ g ∧ g < M) ∧ CellsAt w g ∧ ∀ j u, (nc r)[j]? = some u → w.cell? ⟨g, k * 13 + j, none⟩ = some u := fun k r hr => by
    have hkn : k < n := by have := (List.getElem?_eq_some_iff.1 hr).1; omega
    obtain ⟨g, c', e, _, _, hb, _⟩ := own_at hrow (by omega)
    injection e with e1 _ _
    refine ⟨g, e1, ⟨hb, hlt0 g (by rw [e1]; rfl)⟩, own_cellsAt hrow (by rw [e1]; rfl), fun j u hu => ?_⟩
    have hj : j < 13 := by
      have := (List.getElem?_eq_some_iff.1 hu).1
      rwa [nc_length] at this
    have := Reads.cell (Reads.of_own hrow) e1 (j := k * 13 + j) (u := u) (by rw [flat_get nc_length ns k j _ hr hj]; exact hu)
    rwa [Nat.zero_add] at this
  have HN := Lib.hid hn
  have HR := Lib.hid hrow
  have HD := Lib.hid hdep
  have HG := Lib.hid hget
  have HA := Lib.hid hat
  clear hn hrow hdep hget hat hlt0
  go_enter Try.func22, Try.ntmps22
  go_wp2
  go_loopw [2] (fun i wr => ∃ k : Nat, k ≤ n ∧ i = .int .i64 k ∧ Spoilt (fun i => n₀ ≤ i ∧ i < M) w wr ∧ ∀ j r g, k ≤ j → ns[j]? = some r → A = some ⟨g, 0, none⟩ → wr.cell? ⟨g, j * 13 + 3, none⟩ = some (.slice r.e.A r.e.n r.e.c) ∧ wr.cell? ⟨g, j * 13 + 10, none⟩ = some (.bool r.void)) (fun i _ => n - (intOf i).toNat)
  case atStart =>
    refine ⟨0, by omega, rfl, Spoilt.refl _ _, fun j r g _ hr hg => ?_⟩
    obtain ⟨g', e, _, _, hj⟩ := HA.out j r hr
    rw [hg] at e
    cases e
    exact ⟨hj 3 _ rfl, hj 10 _ rfl⟩
  case round =>
    obtain ⟨k, hk, rfl, hs, hrest⟩ := hrel
    by_cases hlt : k < n
    · obtain ⟨r, hr⟩ := HG.out k hlt
      obtain ⟨g, rfl, hgb, hgc, hgj⟩ := HA.out k r hr
      have hki : (k : Int) < (n : Int) := by omega
      have hk0 : (0 : Int) ≤ (k : Int) := by omega
      obtain ⟨c3, c10⟩ := hrest k r g (Nat.le_refl _) hr rfl
      have hsome : ∀ j, j < 13 → (wr.cell? ⟨g, k * 13 + j, none⟩).isSome = true := fun j hj => hs.some_ _ _ (by rw [hgj j _ (List.getElem?_eq_getElem (by rw [nc_length]; exact hj))]; rfl)
      have hdr := (HD.out r (List.mem_of_getElem? hr)).1
      have hsoft : Soft wr (fun i => (n₀ ≤ i ∧ i < M) ∧ i ≠ g) r.e.A r.e.n := ((hdr.1.soft fun i hi => hi.2.2.1).spoilt hs).more fun i hi => ⟨⟨hi.1, hi.2.1⟩, fun e => hi.2.2.2 (by rw [e]; rfl)⟩
      have hfit := (HD.out r (List.mem_of_getElem? hr)).2
      have HREST := Lib.hid hrest
      have HS := Lib.hid hs
      have HRR := Lib.hid hr
      have HSOME := Lib.hid hsome
      have hcr : CellsAt wr g := hs.kept g hgc
      clear hrest hs hr hsome hgj hdr
      go_wp2_with fail
      refine (spoilInts_any (fun i => (n₀ ≤ i ∧ i < M) ∧ i ≠ g) r.e.A r.e.n r.e.c wr hsoft hfit).mono ?_
      rintro e w1 ⟨⟨u, rfl⟩, hs1⟩
      have hg1 : ∀ j, w1.cell? ⟨g, j, none⟩ = wr.cell? ⟨g, j, none⟩ := fun j => World.cell?_of_block (w := wr) (hs1.far g (fun e => e.2 rfl))
      have d10 := (hg1 (k * 13 + 10)).trans c10
      obtain ⟨u11, hu11⟩ := Option.isSome_iff_exists.1 (HSOME.out 11 (by omega))
      obtain ⟨u12, hu12⟩ := Option.isSome_iff_exists.1 (HSOME.out 12 (by omega))
      have d11 := (hg1 (k * 13 + 11)).trans hu11
      have d12 := (hg1 (k * 13 + 12)).trans hu12
      have hf10 := (hs1.kept g hcr).froz (k * 13 + 10)
      have hf11 := (hs1.kept g hcr).froz (k * 13 + 11)
      have hf12 := (hs1.kept g hcr).froz (k * 13 + 12)
      obtain ⟨w4, hw4⟩ : ∃ w4, w4 = ((w1.setCell ⟨g, k * 13 + 10, none⟩ (.bool (!r.void))).setCell ⟨g, k * 13 + 11, none⟩ (.int .i64 77)).setCell ⟨g, k * 13 + 12, none⟩ (.int .i64 0) := ⟨_, rfl⟩
      have hs4 : Spoilt (fun i => n₀ ≤ i ∧ i < M) w w4 := by
        rw [hw4]
        exact (HS.out.trans (hs1.more fun i hi => hi.1)).trans (((Spoilt.setCell _ _ _ _ hgb).trans (Spoilt.setCell _ _ _ _ hgb)).trans (Spoilt.setCell _ _ _ _ hgb))
      have hrest4 : ∀ j r' g', k + 1 ≤ j → ns[j]? = some r' → some (⟨g, 0, none⟩ : Addr) = some ⟨g', 0, none⟩ → w4.cell? ⟨g', j * 13 + 3, none⟩ = some (.slice r'.e.A r'.e.n r'.e.c) ∧ w4.cell? ⟨g', j * 13 + 10, none⟩ = some (.bool r'.void) := fun j r' g' hj hr' e => by
        cases e
        obtain ⟨x3, x10⟩ := HREST.out j r' g (by omega) hr' rfl
        rw [hw4]
        refine ⟨?_, ?_⟩
        · rw [cell_other (by omega), cell_other (by omega), cell_other (by omega)]; exact (hg1 _).trans x3
        · rw [cell_other (by omega), cell_other (by omega), cell_other (by omega)]; exact (hg1 _).trans x10
      have H4 := Lib.hid hs4
      have HREST4 := Lib.hid hrest4
      have HW4 := Lib.hid hw4
      clear hs4 hrest4 hw4 hg1 c3 c10
      go_wp2
      go_roundw
      case rel => exact ⟨k + 1, by omega, by go_num, by rw [← HW4.out]; exact H4.out, by rw [← HW4.out]; exact HREST4.out⟩
      case measure => simp [intOf]; omega
    · obtain rfl : k = n := by omega
      go_wp2
      go_end0
      exact ⟨⟨_, rfl⟩, hs⟩

/-- What a test asks of an entry's words alone. -/
theorem filter_keys {p : En → Bool} (hp : ∀ r s, nkey r = nkey s → p r = p s) : ∀ {xs ys : List En}, xs.map nkey = ys.map nkey → (xs.filter p).map nkey = (ys.filter p).map nkey
  | [], [], _ => rfl
  | [], y :: ys, h => by cases h
  | x :: xs, [], h => by cases h
  | x :: xs, y :: ys, h => by
    rw [List.map_cons, List.map_cons] at h
    injection h with h1 h2
    have ih := filter_keys hp h2
    have hxy := hp x y h1
    by_cases hx : p x = true
    · rw [List.filter_cons_of_pos hx, List.filter_cons_of_pos (hxy ▸ hx), List.map_cons, List.map_cons, h1, ih]
    · rw [List.filter_cons_of_neg hx, List.filter_cons_of_neg (hxy ▸ hx), ih]
theorem readIs_key (t a : Int) (r s : En) (h : nkey r = nkey s) : readIs t a r = readIs t a s := by
  simp only [nkey, ekey, Prod.mk.injEq] at h
  unfold readIs
  rw [h.1.2.2.1, h.1.2.2.2.1]
theorem voidIs_key (r s : En) (h : nkey r = nkey s) : voidIs r = voidIs s := by
  simp only [nkey, ekey, Prod.mk.injEq] at h
  unfold voidIs
  rw [h.2.1, h.2.2.1, h.2.2.2]
theorem len_keys {xs ys : List En} (h : xs.map nkey = ys.map nkey) : xs.length = ys.length := by simpa using congrArg List.length h
theorem reads_eq {xs ys : List En} (h : xs.map nkey = ys.map nkey) (t a f m : Int) :
    (((xs.filter (readIs t a)).drop f.toNat).take m.toNat).map nkey = (((ys.filter (readIs t a)).drop f.toNat).take m.toNat).map nkey ∧
      decide (f.toNat + m.toNat < (xs.filter (readIs t a)).length) = decide (f.toNat + m.toNat < (ys.filter (readIs t a)).length) := by
  have hk := filter_keys (readIs_key t a) h
  refine ⟨?_, by rw [len_keys hk]⟩
  rw [List.map_take, List.map_take, List.map_drop, List.map_drop, hk]
/-- Two that are handed back read the same. -/
theorem same_in {w : World} {n₀ M n₁ M' : Nat} {A B : Option Addr} {n c m d : Nat} {xs ys : List En} (h : FreshIn w n₀ M (.slice A n c) xs) (k : FreshIn w n₁ M' (.slice B m d) ys) (hk : xs.map nkey = ys.map nkey) (hM : M ≤ w.heap.size) (hM' : M' ≤ w.heap.size) (hn : n ≤ 9223372036854775807) :
    Calls Try.prog 20 #[.slice A n c, .slice B m d] w fun r w' => r = .returned (.bool true) ∧ Below w.heap.size w w' := by
  obtain ⟨h1, h2⟩ := h.list
  obtain ⟨k1, k2⟩ := k.list
  have hl := len_keys hk
  obtain rfl : n = m := by omega
  exact sameEntries_yes _ _ A n c xs B d ys w h1 k1 hk (fun i hi => by omega) (fun i hi => by omega) hn

set_option maxHeartbeats 1600000 in
set_option maxRecDepth 100000 in
theorem streamReads_any (P : Nat → Prop) (A : Option Addr) (n c : Nat) (l : List En) (t a f m : Int) (w : World) (hl : RL w P A n l) (hP : ∀ i, P i → i < w.heap.size) (hn : n ≤ 9223372036854775807) :
    Calls Try.prog 3 #[.slice A n c, .int .i64 t, .int .i64 a, .int .i64 f, .int .i64 m] w fun r w' => r = .returned (.bool true) ∧ Below w.heap.size w w' := by
  go_enter Try.func3, Try.ntmps3
  go_wp2_with fail
  refine (long14_any P A n c l w hl hn).mono ?_
  rintro e _ ⟨β, rfl, hβ, q, rfl⟩
  obtain ⟨w0, hw0⟩ : ∃ W, W = w.drewN q := ⟨_, rfl⟩
  have b0 : Below w.heap.size w w0 := by rw [hw0]; exact below_drewN (Below.refl _ _) q
  have z0 : w.heap.size ≤ w0.heap.size := b0.size
  have L0 : RL w0 (fun i => i < w.heap.size) A n l := (hl.keep fun i hi => b0.block i (hP i hi)).more fun i hi => hP i hi
  rw [← hw0]
  clear hw0 hl hP
  rcases β with _ | _
  case true =>
    clear hβ
    go_wp2_with fail
    refine (works14 w0).mono ?_
    rintro e w1 ⟨rfl, b1⟩
    have k1 := next_below b0 b1
    go_wp2
    go_ret
    exact ⟨rfl, k1⟩
  case false =>
    obtain ⟨h300, h100⟩ := hβ rfl
    have hf : ∀ r ∈ l, r.e.n ≤ 1099511627000 := fun r hr => by have := h100 r hr; omega
    have hn2 : n ≤ 1000000000 := by omega
    have hln := L0.len
    clear h100 hβ
    go_wp2_with fail
    refine (copyEntries_any (fun i => i < w.heap.size) A n c l w0 L0 (fun i hi => by omega) hn2 hf).mono ?_
    rintro e w1 ⟨vx, nx, rfl, hkx, FX, b1⟩
    have X1 := FX.inn
    have z1 := b1.size
    have k1 := next_below b0 b1
    have L1 : RL w1 (fun i => i < w.heap.size) A n l := L0.keep fun i hi => b1.block i (by omega)
    obtain ⟨Ax, cx, rfl, hcx, hcx2⟩ := X1.form
    have hnx : nx.length ≤ 300 := by have := len_keys hkx; omega
    have hkeys := reads_eq hkx t a f m
    have HKX := Lib.hid hkx
    have HKEYS := Lib.hid hkeys
    clear FX L0 b0 b1 hkx hkeys
    go_wp2_with fail
    refine (strRead_any _ Ax nx.length cx nx t a f m w1 X1.list.1 (fun i hi => hi.2) (by omega) X1.fits).mono ?_
    rintro e w2 ⟨va, na, rfl, hka, FA, b2⟩
    have A2 := FA.inn
    have z2 := b2.size
    have k2 := next_below k1 b2
    have L2 : RL w2 (fun i => i < w.heap.size) A n l := L1.keep fun i hi => b2.block i (by omega)
    have X2 := X1.below b2 (Nat.le_refl _)
    obtain ⟨Aa, ca, rfl, hca, hca2⟩ := A2.form
    obtain ⟨γ, hγ⟩ : ∃ γ, γ = decide (f.toNat + m.toNat < (nx.filter (readIs t a)).length) := ⟨_, rfl⟩
    rw [← hγ]
    have HG := Lib.hid hγ
    have HKA := Lib.hid hka
    clear FA L1 X1 k1 b2 hγ hka
    go_wp2_with fail
    refine (refRead_any (fun i => i < w.heap.size) A n c l t a f m w2 L2 (fun i hi => by omega) hn2 hf).mono ?_
    rintro e w3 ⟨vb, nb, rfl, hkb, FB, b3⟩
    have hge := (HKEYS.out.2.symm.trans HG.out.symm)
    rw [hge]
    have HKAB := Lib.hid (HKA.out.trans (HKEYS.out.1.trans hkb.symm))
    have B3 := FB.inn
    have z3 := b3.size
    have k3 := next_below k2 b3
    have L3 : RL w3 (fun i => i < w.heap.size) A n l := L2.keep fun i hi => b3.block i (by omega)
    have X3 := X2.below b3 (by omega)
    have A3 := A2.below b3 (Nat.le_refl _)
    obtain ⟨Ab, cb, rfl, hcb, hcb2⟩ := B3.form
    clear FB L2 X2 A2 k2 b3 hge hkb HKEYS HG HKA
    go_wp2_with fail
    refine (strVoided_any _ Ax nx.length cx nx w3 X3.list.1 (fun i hi => by omega) (by omega) X3.fits).mono ?_
    rintro e w4 ⟨vc, n4, rfl, hkc, FC, b4⟩
    have C4 := FC.inn
    have z4 := b4.size
    have k4 := next_below k3 b4
    have L4 : RL w4 (fun i => i < w.heap.size) A n l := L3.keep fun i hi => b4.block i (by omega)
    have X4 := X3.below b4 (by omega)
    have A4 := A3.below b4 (by omega)
    have B4 := B3.below b4 (Nat.le_refl _)
    obtain ⟨Ac, cc, rfl, hcc, hcc2⟩ := C4.form
    have HKC := Lib.hid hkc
    have hne : (γ != γ) = false := by simp
    clear FC L3 X3 A3 B3 k3 b4 hkc
    go_wp2_with fail
    refine (same_in A4 B4 HKAB.out (by omega) (by omega) (by omega)).mono ?_
    rintro e w5 ⟨rfl, b5⟩
    have z5 := b5.size
    have k5 := next_below k4 b5
    have L5 : RL w5 (fun i => i < w.heap.size) A n l := L4.keep fun i hi => b5.block i (by omega)
    have X5 := X4.below b5 (by omega)
    have A5 := A4.below b5 (by omega)
    have C5 := C4.below b5 (Nat.le_refl _)
    clear L4 X4 A4 B4 C4 k4 b5 HKAB hne
    go_wp2_with fail
    refine (refVoided_any (fun i => i < w.heap.size) A n c l w5 L5 (fun i hi => by omega) hn2 hf).mono ?_
    rintro e w6 ⟨vd, nd, rfl, hkd, FD, b6⟩
    have D6 := FD.inn
    have z6 := b6.size
    have k6 := next_below k5 b6
    have L6 : RL w6 (fun i => i < w.heap.size) A n l := L5.keep fun i hi => b6.block i (by omega)
    have X6 := X5.below b6 (by omega)
    have A6 := A5.below b6 (by omega)
    have C6 := C5.below b6 (by omega)
    obtain ⟨Ad, cd, rfl, hcd, hcd2⟩ := D6.form
    have HKCD := Lib.hid (HKC.out.trans ((filter_keys voidIs_key HKX.out).trans hkd.symm))
    clear FD L5 X5 A5 C5 k5 b6 hkd HKC
    go_wp2_with fail
    refine (same_in C6 D6 HKCD.out (by omega) (by omega) (by omega)).mono ?_
    rintro e w7 ⟨rfl, b7⟩
    have z7 := b7.size
    have k7 := next_below k6 b7
    have L7 : RL w7 (fun i => i < w.heap.size) A n l := L6.keep fun i hi => b7.block i (by omega)
    have X7 := X6.below b7 (by omega)
    have A7 := A6.below b7 (by omega)
    have C7 := C6.below b7 (by omega)
    clear L6 X6 A6 C6 D6 k6 b7 HKCD
    go_wp2_with fail
    refine (spoilEntries_in _ na w1.heap.size w2.heap.size w7 A7).mono ?_
    rintro e w8 ⟨⟨u8, rfl⟩, s8⟩
    have z8 := s8.size
    have k8 : Below w.heap.size w w8 := k7.trans (s8.below fun i hi => by omega)
    have L8 : RL w8 (fun i => i < w.heap.size) A n l := L7.keep fun i hi => s8.far i (by omega)
    have X8 := X7.keep fun i h1 h2 => s8.far i (by omega)
    have C8 := C7.keep fun i h1 h2 => s8.far i (by omega)
    clear L7 X7 A7 C7 k7 s8
    go_wp2_with fail
    refine (spoilEntries_in _ n4 w3.heap.size w4.heap.size w8 C8).mono ?_
    rintro e w9 ⟨⟨u9, rfl⟩, s9⟩
    have z9 := s9.size
    have k9 : Below w.heap.size w w9 := k8.trans (s9.below fun i hi => by omega)
    have L9 : RL w9 (fun i => i < w.heap.size) A n l := L8.keep fun i hi => s9.far i (by omega)
    have X9 := X8.keep fun i h1 h2 => s9.far i (by omega)
    clear L8 X8 C8 k8 s9
    have hxn : nx.length = n := by have := len_keys HKX.out; omega
    have X9' := X9.list.1
    rw [hxn] at X9' ⊢
    go_wp2_with fail
    refine (sameEntries_yes _ _ Ax n cx nx A c l w9 X9' L9 HKX.out (fun i hi => by omega) (fun i hi => by omega) hn).mono ?_
    rintro e wa ⟨rfl, ba⟩
    have ka := next_below k9 ba
    clear L9 X9 X9' k9 ba
    go_wp2_with fail
    refine (works14 wa).mono ?_
    rintro e wb ⟨rfl, bb⟩
    have kb := next_below ka bb
    clear ka bb
    go_wp2
    go_ret
    exact ⟨rfl, kb⟩
end Go.Proofs.Ytcidmlpjobdakaa
