/- Entries brought to few types and aggregates; StreamParts. -/
import Derived.Test.YtcidmlpjobdakaaStH
namespace Go.Proofs.Ytcidmlpjobdakaa
set_option linter.unusedSimpArgs false
set_option linter.unusedVariables false
set_option linter.unnecessarySimpa false
open Go.RowKit

/-- How many stand in the streams ahead of that of type T and aggregate G. -/
def cnt (xs : List En) (T G : Nat) : Nat := (xs.filter fun r : En => decide (r.e.b0 < (T : Int)) || (decide (r.e.b0 = (T : Int)) && decide (r.e.b1 < (G : Int)))).length
theorem cnt_step (xs : List En) (T G : Nat) : cnt xs T G + (xs.filter (readIs T G)).length = cnt xs T (G + 1) := by
  unfold cnt readIs
  induction xs with
  | nil => rfl
  | cons r l ih =>
    simp only [List.filter_cons]
    by_cases h1 : r.e.b0 < T
    · have h2 : ¬ r.e.b0 = T := by omega
      simp [h1, h2]; simp at ih; omega
    · by_cases h2 : r.e.b0 = T
      · by_cases h3 : r.e.b1 < G
        · have h4 : ¬ r.e.b1 = G := by omega
          have h5 : r.e.b1 < (G : Int) + 1 := by omega
          simp [h1, h2, h3, h4, h5]; simp at ih; omega
        · by_cases h4 : r.e.b1 = G
          · have h6 : (G : Int) < (G : Int) + 1 := by omega
            simp [h1, h2, h3, h4, h6]; simp at ih; omega
          · have h5 : ¬ r.e.b1 < (G : Int) + 1 := by omega
            simp [h1, h2, h3, h4, h5]; simp at ih; omega
      · simp [h1, h2]; simp at ih; omega
def Few (xs : List En) : Prop := ∀ r ∈ xs, (0 ≤ r.e.b0 ∧ r.e.b0 < 2) ∧ 0 ≤ r.e.b1 ∧ r.e.b1 < 4
theorem cnt_next (xs : List En) (T : Nat) (h : Few xs) : cnt xs T 4 = cnt xs (T + 1) 0 := by
  unfold cnt
  congr 1
  refine List.filter_congr fun r hr => ?_
  have h2 := h r hr
  by_cases h1 : r.e.b0 < (T : Int) + 1
  · by_cases h3 : r.e.b0 < (T : Int)
    · simp [h1, h3]
    · have h4 : r.e.b0 = (T : Int) := by omega
      have h5 : r.e.b1 < 4 := h2.2.2
      simp [h4, h5]
      left; omega
  · have h3 : ¬ r.e.b0 < (T : Int) := by omega
    have h4 : ¬ r.e.b0 = (T : Int) := by omega
    have h5 : ¬ r.e.b1 < 0 := by omega
    simp [h1, h3, h4, h5]
theorem cnt_none (xs : List En) (h : Few xs) : cnt xs 0 0 = 0 := by
  unfold cnt
  rw [List.length_eq_zero_iff, List.filter_eq_nil_iff]
  intro r hr
  have h2 := h r hr
  have h3 : ¬ r.e.b0 < 0 := by omega
  have h4 : ¬ r.e.b1 < 0 := by omega
  simp [h3, h4]
theorem cnt_all (xs : List En) (h : Few xs) : cnt xs 2 0 = xs.length := by
  unfold cnt
  congr 1
  refine List.filter_eq_self.2 fun r hr => ?_
  have h2 := (h r hr).1.2
  simp [h2]
/-- An entry of another type; of another aggregate. -/
def typed (r : En) (z : Int) : En := { r with e := { r.e with b0 := z } }
def aggd (r : En) (z : Int) : En := { r with e := { r.e with b1 := z } }
theorem ncs_set4 (l : List En) (k : Nat) (r : En) (h : l[k]? = some r) (z : Int) : (l.flatMap nc).set (k * 13 + 4) (.int .i64 z) = (l.set k (typed r z)).flatMap nc := by
  induction l generalizing k with
  | nil => simp at h
  | cons a l ih =>
    rcases k with _ | k
    · simp at h; subst h
      rfl
    · rw [List.set_cons_succ, List.flatMap_cons, List.flatMap_cons, ← ih k (by simpa using h), List.set_append_right _ _ (by rw [nc_length]; omega), nc_length, show (k + 1) * 13 + 4 - 13 = k * 13 + 4 from by omega]
theorem ncs_set5 (l : List En) (k : Nat) (r : En) (h : l[k]? = some r) (z : Int) : (l.flatMap nc).set (k * 13 + 5) (.int .i64 z) = (l.set k (aggd r z)).flatMap nc := by
  induction l generalizing k with
  | nil => simp at h
  | cons a l ih =>
    rcases k with _ | k
    · simp at h; subst h
      rfl
    · rw [List.set_cons_succ, List.flatMap_cons, List.flatMap_cons, ← ih k (by simpa using h), List.set_append_right _ _ (by rw [nc_length]; omega), nc_length, show (k + 1) * 13 + 5 - 13 = k * 13 + 5 from by omega]
theorem FreshIn.setv {w : World} {n₀ M g n c k j : Nat} {ns : List En} {r r' : En} {u : Value} (h : FreshIn w n₀ M (.slice (some ⟨g, 0, none⟩) n c) ns) (hr : ns[k]? = some r) (hA : r'.e.A = r.e.A) (hn : r'.e.n = r.e.n) (hc : r'.e.c = r.e.c) (hd : r'.e.deps = r.e.deps)
    (hset : (ns.flatMap nc).set j u = (ns.set k r').flatMap nc) : FreshIn (w.setCell ⟨g, j, none⟩ u) n₀ M (.slice (some ⟨g, 0, none⟩) n c) (ns.set k r') := by
  have hln := h.list.2
  have hrow := h.row
  rw [hln] at hrow
  refine ⟨by rw [List.length_set, hln, ← hset]; exact own_setv hrow u, h.lt, fun x hx => ?_⟩
  have hkeep : ∀ y ∈ ns, EvR (w.setCell ⟨g, j, none⟩ u) (fun i => n₀ ≤ i ∧ i < M ∧ CellsAt (w.setCell ⟨g, j, none⟩ u) i ∧ some i ≠ (Value.slice (some ⟨g, 0, none⟩) n c).ownBlock) y.e ∧ y.e.n ≤ 1099511627000 := fun y hy => by
    obtain ⟨h5, h6⟩ := h.deps y hy
    have hh : ∀ i, (n₀ ≤ i ∧ i < M ∧ CellsAt w i ∧ some i ≠ (Value.slice (some ⟨g, 0, none⟩) n c).ownBlock) → (w.setCell ⟨g, j, none⟩ u).heap[i]? = w.heap[i]? := fun i hi => Below.heap_setCell w ⟨g, j, none⟩ u i (fun e => hi.2.2.2 (by rw [e]; rfl))
    exact ⟨(h5.keep hh).more fun i hi => ⟨hi.1, hi.2.1, hi.2.2.1.keep (hh i hi), hi.2.2.2⟩, h6⟩
  rcases List.mem_or_eq_of_mem_set hx with hx | hx
  · exact hkeep x hx
  · subst hx
    obtain ⟨h5, h6⟩ := hkeep r (List.mem_of_getElem? hr)
    unfold EvR at h5 ⊢
    rw [hA, hn, hc, hd]
    exact ⟨h5, h6⟩

set_option maxHeartbeats 1600000 in
set_option maxRecDepth 100000 in
theorem streamParts_any (P : Nat → Prop) (A : Option Addr) (n c : Nat) (l : List En) (w : World) (hl : RL w P A n l) (hP : ∀ i, P i → i < w.heap.size) (hn : n ≤ 9223372036854775807)
    (hI : ∀ r ∈ l, (-9223372036854775808 ≤ r.e.b0 ∧ r.e.b0 ≤ 9223372036854775807) ∧ -9223372036854775808 ≤ r.e.b1 ∧ r.e.b1 ≤ 9223372036854775807) :
    Calls Try.prog 5 #[.slice A n c] w fun r w' => r = .returned (.bool true) ∧ Below w.heap.size w w' := by
  go_enter Try.func5, Try.ntmps5
  go_wp2_with fail
  refine (long14_any P A n c l w hl hn).mono ?_
  rintro e _ ⟨β, rfl, hβ, q, rfl⟩
  obtain ⟨w0, hw0⟩ : ∃ W, W = w.drewN q := ⟨_, rfl⟩
  have b0 : Below w.heap.size w w0 := by rw [hw0]; exact below_drewN (Below.refl _ _) q
  have z0 : w.heap.size ≤ w0.heap.size := b0.size
  have L0 : RL w0 (fun i => i < w.heap.size) A n l := (hl.keep fun i hi => b0.block i (hP i hi)).more fun i hi => hP i hi
  rw [← hw0]
  have hln := L0.len
  clear hw0 hl hP
  rcases β with _ | _
  case true =>
    clear hβ
    go_wp2_with fail
    refine (works14 w0).mono ?_
    rintro e w1 ⟨rfl, b1⟩
    have k1 := next_below b0 b1
    go_wp2
    go_ret
    exact ⟨rfl, k1⟩
  case false =>
    obtain ⟨h300, h100⟩ := hβ rfl
    have hf : ∀ r ∈ l, r.e.n ≤ 1099511627000 := fun r hr => by have := h100 r hr; omega
    have hn2 : n ≤ 1000000000 := by omega
    clear h100 hβ
    go_wp2_with fail
    refine (copyEntries_any (fun i => i < w.heap.size) A n c l w0 L0 (fun i hi => by omega) hn2 hf).mono ?_
    rintro e w1 ⟨vx, nx, rfl, hkx, FX, b1⟩
    have X1 := FX.inn
    have z1 := b1.size
    have k1 := next_below b0 b1
    obtain ⟨Ax, cx, rfl, hcx, hcx2⟩ := X1.form
    have hnx : nx.length = n := by have := len_keys hkx; omega
    have hIx : ∀ r ∈ nx, (-9223372036854775808 ≤ r.e.b0 ∧ r.e.b0 ≤ 9223372036854775807) ∧ -9223372036854775808 ≤ r.e.b1 ∧ r.e.b1 ≤ 9223372036854775807 := fun r hr => by
      obtain ⟨k, hk, hkr⟩ := List.getElem_of_mem hr
      obtain ⟨s, hs, hks⟩ := key_nth hkx.symm (k := k) (r := r) (by rw [List.getElem?_eq_getElem hk, hkr])
      simp only [nkey, ekey, Prod.mk.injEq] at hks
      have := hI s (List.mem_of_getElem? hs)
      rw [hks.1.2.2.1, hks.1.2.2.2.1] at this
      exact this
    rw [hnx] at hcx X1 ⊢
    have HIX := Lib.hid hIx
    have HNX := Lib.hid hnx
    clear FX L0 b0 b1 hkx hI hIx hnx
    go_wp2
    go_loopw [4] (fun i wr => ∃ (k : Nat) (xs : List En), k ≤ n ∧ i = .int .i64 k ∧ xs.length = n ∧ FreshIn wr w0.heap.size w1.heap.size (.slice Ax n cx) xs ∧ (∀ r ∈ xs, (-9223372036854775808 ≤ r.e.b0 ∧ r.e.b0 ≤ 9223372036854775807) ∧ -9223372036854775808 ≤ r.e.b1 ∧ r.e.b1 ≤ 9223372036854775807) ∧ (∀ j r, j < k → xs[j]? = some r → (0 ≤ r.e.b0 ∧ r.e.b0 < 2) ∧ 0 ≤ r.e.b1 ∧ r.e.b1 < 4) ∧ wr.heap.size = w1.heap.size ∧ Below w.heap.size w wr) (fun i _ => n - (intOf i).toNat)
    case atStart => exact ⟨0, nx, Nat.zero_le _, rfl, HNX.out, X1, HIX.out, fun j r hj => by omega, rfl, k1⟩
    case round =>
      obtain ⟨k, xs, hk, rfl, hxl, hF, hIx, hfew, hsz, hB⟩ := hrel
      by_cases hlt : k < n
      · obtain ⟨r, hr⟩ : ∃ r, xs[k]? = some r := ⟨_, List.getElem?_eq_getElem (by omega)⟩
        have hrow := hF.row
        rw [hxl] at hrow
        obtain ⟨g, cv', ev, _, _, hgv, hgs⟩ := own_at hrow (by omega)
        injection ev with ev e2 e3
        clear e2 e3
        subst ev
        have hir := hIx r (List.mem_of_getElem? hr)
        have x4 : wr.cell? ⟨g, k * 13 + 4, none⟩ = some (.int .i64 r.e.b0) := by
          have := Reads.cell (Reads.of_own hrow) (b := g) (off := 0) rfl (j := k * 13 + 4) (u := .int .i64 r.e.b0) (by rw [flat_get nc_length xs k 4 r hr (by decide)]; rfl)
          rwa [Nat.zero_add] at this
        have f4 := own_froz hrow (k * 13 + 4)
        have hki : (k : Int) < (n : Int) := by omega
        have hk0 : (0 : Int) ≤ (k : Int) := by omega
        have HF := Lib.hid hF
        have HI2 := Lib.hid hIx
        have HFW := Lib.hid hfew
        have HR := Lib.hid hr
        have HXL := Lib.hid hxl
        clear hF hIx hfew hr hxl hrow
        go_wp2_with fail
        refine (pick_pos r.e.b0 2 wr (by decide) (by decide) hir.1.1 hir.1.2).mono ?_
        rintro e _ ⟨he, rfl⟩
        obtain ⟨y, hy, hy2⟩ := nat_of r.e.b0 2 (by decide)
        rw [hy] at he
        obtain rfl := he
        clear hy
        go_upto_region 8 with fail
        obtain ⟨w2, hw2⟩ : ∃ W, W = wr.setCell ⟨g, k * 13 + 4, none⟩ (.int .i64 (y : Int)) := ⟨_, rfl⟩
        have F2 := HF.out.setv HR.out (r' := typed r y) rfl rfl rfl rfl (ncs_set4 xs k r HR.out y)
        rw [← hw2] at F2 ⊢
        have z2 : w2.heap.size = wr.heap.size := by rw [hw2]; simp
        have k2 : Below w.heap.size w w2 := by rw [hw2]; exact hB.setCell (p := ⟨g, k * 13 + 4, none⟩) (by show w.heap.size ≤ g; omega) _
        have hr2 : (xs.set k (typed r y))[k]? = some (typed r y) := by rw [List.getElem?_set_self (by have := HXL.out; omega)]
        have hxl2 : (xs.set k (typed r y)).length = n := by rw [List.length_set]; exact HXL.out
        have hrow := F2.row
        rw [hxl2] at hrow
        have x5 : w2.cell? ⟨g, k * 13 + 5, none⟩ = some (.int .i64 r.e.b1) := by
          have := Reads.cell (Reads.of_own hrow) (b := g) (off := 0) rfl (j := k * 13 + 5) (u := .int .i64 r.e.b1) (by rw [flat_get nc_length _ k 5 (typed r y) hr2 (by decide)]; rfl)
          rwa [Nat.zero_add] at this
        have f5 := own_froz hrow (k * 13 + 5)
        have HF2 := Lib.hid F2
        have HR2 := Lib.hid hr2
        clear hw2 x4 f4 F2 hr2 hB hrow HF
        go_wp2_with fail
        refine (pick_pos r.e.b1 4 w2 (by decide) (by decide) hir.2.1 hir.2.2).mono ?_
        rintro e _ ⟨he, rfl⟩
        obtain ⟨x, hx, hx2⟩ := nat_of r.e.b1 4 (by decide)
        rw [hx] at he
        obtain rfl := he
        clear hx
        go_wp2
        obtain ⟨w3, hw3⟩ : ∃ W, W = w2.setCell ⟨g, k * 13 + 5, none⟩ (.int .i64 (x : Int)) := ⟨_, rfl⟩
        have F3 := HF2.out.setv HR2.out (r' := aggd (typed r y) x) rfl rfl rfl rfl (ncs_set5 _ k (typed r y) HR2.out x)
        rw [← hw3] at F3 ⊢
        have z3 : w3.heap.size = w1.heap.size := by rw [hw3]; simp; omega
        have k3 : Below w.heap.size w w3 := by rw [hw3]; exact k2.setCell (p := ⟨g, k * 13 + 5, none⟩) (by show w.heap.size ≤ g; omega) _
        rw [List.set_set] at F3
        obtain ⟨r3, hr3⟩ : ∃ r3, r3 = aggd (typed r y) x := ⟨_, rfl⟩
        have h30 : r3.e.b0 = (y : Int) := by rw [hr3]; rfl
        have h31 : r3.e.b1 = (x : Int) := by rw [hr3]; rfl
        rw [← hr3] at F3
        have hI3 : ∀ r' ∈ xs.set k r3, (-9223372036854775808 ≤ r'.e.b0 ∧ r'.e.b0 ≤ 9223372036854775807) ∧ -9223372036854775808 ≤ r'.e.b1 ∧ r'.e.b1 ≤ 9223372036854775807 := fun r' hr' => by
          rcases List.mem_or_eq_of_mem_set hr' with h | h
          · exact HI2.out r' h
          · rw [h, h30, h31]; omega
        have hfew3 : ∀ j r', j < k + 1 → (xs.set k r3)[j]? = some r' → (0 ≤ r'.e.b0 ∧ r'.e.b0 < 2) ∧ 0 ≤ r'.e.b1 ∧ r'.e.b1 < 4 := fun j r' hj hr' => by
          by_cases hjk : j = k
          · subst hjk
            rw [List.getElem?_set_self (by have := HXL.out; omega)] at hr'
            cases hr'
            rw [h30, h31]; omega
          · rw [List.getElem?_set_ne (fun e => hjk e.symm)] at hr'
            exact HFW.out j r' (by omega) hr'
        have hxl3 : (xs.set k r3).length = n := by rw [List.length_set]; exact HXL.out
        have K3 := Lib.hid k3
        have Z3 := Lib.hid z3
        have HF3 := Lib.hid F3
        have HI3 := Lib.hid hI3
        have HFW3 := Lib.hid hfew3
        have HX3 := Lib.hid hxl3
        clear hw3 F3 hI3 hfew3 hr3 k3 z3 hxl3 x5 f5 k2 HF2 HR2 hxl2
        go_roundw
        case rel => exact ⟨k + 1, _, by omega, by go_num, HX3.out, HF3.out, HI3.out, HFW3.out, Z3.out, K3.out⟩
        case measure => simp [intOf]; omega
      · obtain rfl : k = n := by omega
        obtain ⟨wa, rfl⟩ : ∃ wa, wa = wr := ⟨_, rfl⟩
        have hFew : Few xs := fun r hr => by
          obtain ⟨j, hj, hjr⟩ := List.getElem_of_mem hr
          exact hfew j r (by omega) (by rw [List.getElem?_eq_getElem hj, hjr])
        have hle : ∀ T G, cnt xs T G ≤ k := fun T G => by unfold cnt; rw [← hxl]; exact List.length_filter_le _ _
        have HFEW := Lib.hid hFew
        have HLE := Lib.hid hle
        have HXL := Lib.hid hxl
        clear hFew hle hxl hIx hfew X1 HIX HNX k1
        go_wp2
        go_loopw [5, 6] (fun v i wt => ∃ T : Nat, T ≤ 2 ∧ i = .int .i64 T ∧ v = .int .i64 (cnt xs T 0 : Nat) ∧ Below wa.heap.size wa wt) (fun _ i _ => 2 - (intOf i).toNat)
        case atStart => exact ⟨0, by omega, rfl, by rw [cnt_none xs HFEW.out]; rfl, Below.refl _ _⟩
        case round =>
          obtain ⟨T, hT, rfl, hv, hBt⟩ := hrel
          obtain ⟨wb, rfl⟩ : ∃ wb, wb = wr := ⟨_, rfl⟩
          obtain ⟨N, hN⟩ : ∃ N, N = cnt xs T 0 := ⟨_, rfl⟩
          rw [← hN] at hv
          obtain rfl := hv
          have HN := Lib.hid hN
          clear hN
          by_cases hT2 : T < 2
          · have d1 : decide ((T : Int) < 2) = true := by simp; omega
            have d1' : decide (T < 2) = true := by simp; omega
            go_wp2
            go_loopw [5, 7] (fun v i wg => ∃ G : Nat, G ≤ 4 ∧ i = .int .i64 G ∧ v = .int .i64 (cnt xs T G : Nat) ∧ Below wa.heap.size wa wg) (fun _ i _ => 4 - (intOf i).toNat)
            case atStart => exact ⟨0, by omega, rfl, by rw [HN.out], hBt⟩
            case round =>
              obtain ⟨G, hG, rfl, hv, hBg⟩ := hrel
              obtain ⟨wc, rfl⟩ : ∃ wc, wc = wr := ⟨_, rfl⟩
              obtain ⟨M0, hM0⟩ : ∃ M, M = cnt xs T G := ⟨_, rfl⟩
              rw [← hM0] at hv
              obtain rfl := hv
              have hM0k : M0 ≤ k := by rw [hM0]; exact HLE.out T G
              have HM0 := Lib.hid hM0
              have hzg := hBg.size
              clear hM0
              by_cases hG4 : G < 4
              · have e1 : decide ((G : Int) < 4) = true := by simp; omega
                have e1' : decide (G < 4) = true := by simp; omega
                have Xg := hF.below hBg (by omega)
                go_wp2_with fail
                have HR := strRead_nat _ Ax k cx xs T G 0 1000 _ Xg.list.1 (fun i hi => by omega) hn2 Xg.fits
                refine HR.mono ?_
                rintro e w5 ⟨vs, ns, he, hks, S5, b5⟩
                obtain ⟨μ, hμ⟩ : ∃ μ, μ = decide (0 + 1000 < (xs.filter (readIs T G)).length) := ⟨_, rfl⟩
                rw [← hμ] at he
                obtain rfl := he
                have hkv : ns.map nkey = (xs.filter (readIs T G)).map nkey := by
                  rw [hks, keys_filter, List.drop_zero]
                  refine List.take_of_length_le ?_
                  have := List.length_filter_le (fun k : ((Int × Int × Int) × List Int × (Int × Int × Int × Int × Int × Int)) × Bool × Int × Int => decide (k.1.2.2.1 = (T : Int)) && decide (k.1.2.2.2.1 = (G : Int))) (xs.map nkey)
                  rw [List.length_map, HXL.out] at this
                  omega
                obtain ⟨Av, cv, rfl, hcv, hcv2⟩ := S5.form
                have hKv : ns.length = (xs.filter (readIs T G)).length := len_keys hkv
                have hKn : ns.length ≤ k := by have := List.length_filter_le (readIs T G) xs; have := HXL.out; omega
                obtain ⟨K, hK⟩ : ∃ K, K = ns.length := ⟨_, rfl⟩
                have hstep : M0 + K = cnt xs T (G + 1) := by rw [HM0.out, hK, hKv]; exact cnt_step xs T G
                have hMK : M0 + K ≤ k := by rw [hstep]; exact HLE.out _ _
                rw [← hK] at hcv S5 hKv hKn ⊢
                have z5 := b5.size
                have hB5 := hBg.trans (b5.mono hzg)
                have X5 := Xg.below b5 (by omega)
                have HKV := Lib.hid hkv
                have HKL := Lib.hid hKv
                have HKK := Lib.hid hK
                have HST := Lib.hid hstep
                have HB5 := Lib.hid hB5
                clear HR hks hkv hKv hK hμ hstep b5 hB5 Xg
                go_wp2
                go_loopw [10, 11] (fun s4 s5 wi => ∃ j : Nat, j ≤ k ∧ s5 = .int .i64 j ∧ s4 = .int .i64 (((xs.take j).filter (readIs T G)).length : Nat) ∧ Below w5.heap.size w5 wi) (fun _ i _ => k - (intOf i).toNat)
                case atStart => exact ⟨0, by omega, rfl, rfl, Below.refl _ _⟩
                case round =>
                  obtain ⟨j, hj, rfl, hs4, hB⟩ := hrel
                  obtain ⟨wd, rfl⟩ : ∃ wd, wd = wr := ⟨_, rfl⟩
                  obtain ⟨M, hM⟩ : ∃ M, M = ((xs.take j).filter (readIs T G)).length := ⟨_, rfl⟩
                  rw [← hM] at hs4
                  obtain rfl := hs4
                  have hzr := hB.size
                  have Xr := X5.below hB (by omega)
                  have hMj : M ≤ j := by
                    have h2 := List.length_filter_le (readIs T G) (xs.take j)
                    rw [List.length_take] at h2
                    omega
                  by_cases hlt : j < k
                  · obtain ⟨b, off, r, hAe, hPb, hr, er, hcl⟩ := Xr.list.1.cell hlt
                    subst hAe
                    have hki : (j : Int) < (k : Int) := by omega
                    have hk0 : (0 : Int) ≤ (j : Int) := by omega
                    have hts := take_filter_succ (readIs T G) xs j r hr
                    have x4 := hcl 4 _ rfl
                    have x5 := hcl 5 _ rfl
                    have HM := Lib.hid hM
                    have HTS := Lib.hid hts
                    have HB := Lib.hid hB
                    have HR := Lib.hid hr
                    clear hts hM hcl er hB hr
                    by_cases h1 : r.e.b0 = (T : Int)
                    · have q1 : (r.e.b0 == (T : Int)) = true := by simp [h1]
                      by_cases h2 : r.e.b1 = (G : Int)
                      · have q2 : (r.e.b1 == (G : Int)) = true := by simp [h2]
                        have hyes : readIs T G r = true := by simp [readIs, h1, h2]
                        rw [hyes] at HTS
                        have hat := filter_at HR.out hyes
                        rw [← HM.out] at hat
                        obtain ⟨s, hs, hks⟩ := key_nth HKV.out hat
                        have hMK2 : M < K := by
                          rw [HKK.out]
                          exact (List.getElem?_eq_some_iff.1 hs).1
                        have Vr := S5.below HB.out (Nat.le_refl _)
                        obtain ⟨gv, cv', ev, _, _, hgv, _⟩ := own_at Vr.row (by rw [← HKK.out]; omega)
                        injection ev with ev e2 e3
                        clear e2 e3
                        subst ev
                        have one1 := Vr.list.1.one hs
                        have one2 := Xr.list.1.one HR.out
                        rw [Nat.zero_add] at one1
                        obtain ⟨ι, W, hne, hW0, hWB, hWall⟩ := family wd.heap.size wd
                        have O1 := Lib.hid fun m => one1.keep fun i hi => (hWB m).block i (by omega)
                        have O2 := Lib.hid fun m => one2.keep fun i hi => (hWB m).block i (by omega)
                        have HWB := Lib.hid hWB
                        have HWall := Lib.hid hWall
                        have hz2 : ∀ m, wd.heap.size ≤ (W m).heap.size := fun m => (hWB m).size
                        have HP1 := Lib.hid (show ∀ m i, (wc.heap.size ≤ i ∧ i < w5.heap.size) → i < (W m).heap.size from fun m i hi => by have := hz2 m; omega)
                        have HP2 := Lib.hid (show ∀ m i, (w0.heap.size ≤ i ∧ i < w1.heap.size) → i < (W m).heap.size from fun m i hi => by have := hz2 m; omega)
                        have HKS := Lib.hid hks
                        have y1 : decide ((K : Int) ≤ (M : Int)) = false := by simp; omega
                        have y1' : decide (K ≤ M) = false := by simp; omega
                        have n1 : ¬ cv = M := by omega
                        have n2 : ¬ cx = j := by omega
                        have HYES := Lib.hid hyes
                        clear hat hs one1 one2 hWB hWall hz2 hks Vr hyes h1 h2
                        go_upto_region 22 with fail
                        clear x4 x5
                        refine wp_region_family (by kernel_rfl) (by kernel_rfl) hW0 ?_
                        repeat (go_big_quiet_step ((go_at_call 20; exact calls_family (sameEntries_yes _ _ _ 1 _ [s] _ _ [r] _ (O1.out _) (O2.out _) (by rw [List.map_singleton, List.map_singleton, HKS.out]) (HP1.out _) (HP2.out _) (by decide)) HWB.out (Nat.le_refl _) HWall.out)))
                        refine wpQuiet_nil ?_
                        rintro _ ⟨nq, rfl⟩
                        have B2 := Lib.hid (HB.out.trans ((HWB.out nq).mono hzr))
                        clear hne hW0 q1 q2
                        go_wp2
                        go_roundw
                        case rel => exact ⟨j + 1, by omega, by go_num, by rw [HTS.out, HM.out]; simp, B2.out⟩
                        case measure => simp [intOf]; omega
                      · have q2 : (r.e.b1 == (G : Int)) = false := by simp [h2]
                        have hno : readIs T G r = false := by simp [readIs, h2]
                        rw [hno] at HTS
                        have HNO := Lib.hid hno
                        clear hno h1 h2
                        go_wp2
                        go_roundw
                        case rel => exact ⟨j + 1, by omega, by go_num, by rw [HTS.out, HM.out]; simp, HB.out⟩
                        case measure => simp [intOf]; omega
                    · have q1 : (r.e.b0 == (T : Int)) = false := by simp [h1]
                      have hno : readIs T G r = false := by simp [readIs, h1]
                      rw [hno] at HTS
                      have HNO := Lib.hid hno
                      clear hno h1
                      go_wp2
                      go_roundw
                      case rel => exact ⟨j + 1, by omega, by go_num, by rw [HTS.out, HM.out]; simp, HB.out⟩
                      case measure => simp [intOf]; omega
                  · obtain rfl : j = k := by omega
                    have hMK : M = K := by rw [hM, HKL.out, List.take_of_length_le (Nat.le_of_eq HXL.out)]
                    clear hM
                    subst hMK
                    have kB := HB5.out.trans (hB.mono (by have := HB5.out.size; omega))
                    have KB := Lib.hid kB
                    have nn : ((M : Int) != (M : Int)) = false := by simp
                    clear kB Xr X5 S5
                    go_wp2
                    go_roundw
                    case rel => exact ⟨G + 1, by omega, by go_num, by rw [← HST.out]; go_num, KB.out⟩
                    case measure => simp [intOf]; omega
              · obtain rfl : G = 4 := by omega
                have hnx : M0 = cnt xs (T + 1) 0 := by rw [HM0.out]; exact cnt_next xs T HFEW.out
                have HNX := Lib.hid hnx
                have HBG := Lib.hid hBg
                clear hnx hBg
                go_wp2
                go_roundw
                case rel => exact ⟨T + 1, by omega, by go_num, by rw [HNX.out], HBG.out⟩
                case measure => simp [intOf]; omega
          · obtain rfl : T = 2 := by omega
            have hNk : N = k := by rw [HN.out, cnt_all xs HFEW.out]; exact HXL.out
            subst hNk
            have kb := hB.trans (hBt.mono hB.size)
            clear hB hBt
            go_wp2_with fail
            refine (works14 wb).mono ?_
            rintro e w4 ⟨rfl, b4⟩
            have k4 := next_below kb b4
            go_wp2
            go_ret
            exact ⟨rfl, k4⟩
end Go.Proofs.Ytcidmlpjobdakaa
