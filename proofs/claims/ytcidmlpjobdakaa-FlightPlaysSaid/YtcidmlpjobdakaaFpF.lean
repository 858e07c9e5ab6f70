/- does: Send. -/
import Derived.Test.YtcidmlpjobdakaaFpE
namespace Go.Proofs.Ytcidmlpjobdakaa
set_option linter.unusedSimpArgs false
set_option linter.unusedVariables false
set_option linter.unnecessarySimpa false
open Go.RowKit

/-- A row of messages of the call's own, each with what it holds between two places of memory of its own. -/
structure Rowed (w : World) (n₀ : Nat) (v : Value) (ns : List Mg) (lo hi : Nat → Nat) : Prop where
  row : w.ownsRow n₀ 54 5 v ns.length (mcs ns)
  at_ : ∀ j x, ns[j]? = some x → MgIn w (lo j) (hi j) x ∧ n₀ ≤ lo j ∧ hi j ≤ w.heap.size ∧ ∀ i, v.ownBlock = some i → i < lo j ∨ hi j ≤ i
  apart : ∀ i j, i < j → j < ns.length → hi i ≤ lo j
theorem Rowed.push {w w1 w2 : World} {n₀ : Nat} {v : Value} {ns : List Mg} {lo hi : Nat → Nat} {m : Mg} {g cap : Nat} (h : Rowed w n₀ v ns lo hi) (hn₀ : n₀ ≤ w.heap.size) (hB : Below w.heap.size w w1) (hm : MgIn w1 w.heap.size w1.heap.size m)
    (ho : w2.ownsRow n₀ 54 5 (.slice (some ⟨g, 0, none⟩) (ns.length + 1) cap) (ns.length + 1) (mcs ns ++ mc m)) (hgr : w1.grownBy w2 v.ownBlock) (hat : v.ownBlock = some g ∨ w1.heap.size ≤ g) :
    Rowed w2 n₀ (.slice (some ⟨g, 0, none⟩) (ns.length + 1) cap) (ns ++ [m]) (fun j => if j = ns.length then w.heap.size else lo j) (fun j => if j = ns.length then w1.heap.size else hi j) := by
  have z1 := hB.size
  have z2 := hgr.size
  have hvb : ∀ i, some i = v.ownBlock → i < w.heap.size := fun i e => (h.row.lt i e.symm).2
  refine ⟨?_, fun j x hx => ?_, fun i j hij hj => ?_⟩
  · rw [mcs_append, List.length_append, List.length_singleton, show mcs [m] = mc m from by simp [mcs]]
    exact ho
  · by_cases hjl : j = ns.length
    · subst hjl
      rw [List.getElem?_append_right (Nat.le_refl _), Nat.sub_self] at hx
      obtain rfl : m = x := by simpa using hx
      simp only [if_pos]
      refine ⟨hm.keep fun i h1 h2 => hgr.block i h2 (fun e => by have := hvb i e; omega), hn₀, z2, fun i e => ?_⟩
      have e2 : g = i := Option.some.inj e
      rcases hat with h7 | h7
      · left; exact hvb i (by rw [h7, e2])
      · right; omega
    · rw [if_neg hjl, if_neg hjl]
      have hjn : j < ns.length := by
        have := (List.getElem?_eq_some_iff.1 hx).1
        rw [List.length_append, List.length_singleton] at this
        omega
      rw [List.getElem?_append_left hjn] at hx
      obtain ⟨h1, h2, h3, h4⟩ := h.at_ j x hx
      refine ⟨(h1.below hB h3).keep fun i h5 h6 => hgr.block i (by omega) (fun e => by rcases h4 i e.symm with h7 | h7 <;> omega), h2, by omega, fun i e => ?_⟩
      have e2 : g = i := Option.some.inj e
      rcases hat with h7 | h7
      · exact h4 i (by rw [h7, e2])
      · right; omega
  · rw [List.length_append, List.length_singleton] at hj
    rw [if_neg (by omega)]
    by_cases hjl : j = ns.length
    · rw [if_pos hjl]
      obtain ⟨x, hx⟩ : ∃ x, ns[i]? = some x := ⟨_, List.getElem?_eq_getElem (by omega)⟩
      exact (h.at_ i x hx).2.2.1
    · rw [if_neg hjl]
      exact h.apart i j hij (by omega)

/-- Behind k rounds of copying. -/
def InLoop (w0 wr : World) (l : List Mg) (v : Value) (k : Nat) : Prop := ∃ (ns : List Mg) (lo hi : Nat → Nat), ns.length = k ∧ ns.map mkey = (l.take k).map mkey ∧ Rowed wr w0.heap.size v ns lo hi ∧ Below w0.heap.size w0 wr

/-- Behind both sendings. -/
theorem sent {wa w' w2 : World} {S1 S2 : Nat → Prop} {g1 g2 room : Nat} {ms1 ms2 ns1 ns2 ns l : List Mg} (F1 : Fli w' (Grow S1 wa w') g1 (ms1 ++ ns1)) (O1 : Off S1 wa w') (F2 : Fli w2 (Grow S2 w' w2) g2 (ms2 ++ ns2)) (O2 : Off S2 w' w2)
    (hk : ms1.map mkey = ms2.map mkey) (hk1 : ns1.map mkey = (ns.take room).map mkey) (hk2 : ns2.map mkey = (l.take room).map mkey) (hkey : ns.map mkey = l.map mkey) (hroom : ms1.length + room ≤ 1024)
    (hS1 : ∀ i, S1 i → i < wa.heap.size) (hS2 : ∀ i, S2 i → i < wa.heap.size) (hdis : ∀ i, S1 i → ¬ S2 i) : Both wa w2 S1 S2 g1 g2 := by
  have z1 := O1.size
  refine ⟨Grow S1 wa w', Grow S2 w' w2, ms1 ++ ns1, ms2 ++ ns2, F1.off O2 (fun i hi hs => ?_), F2, ?_, ?_, fun i hi hg => ?_, fun i hi => ?_, fun i hi => ?_, (O1.more fun i hi => .inl hi).cat O2 fun i hi => .inl (.inr hi)⟩
  · rcases hi with hi | hi
    · exact hdis i hi hs
    · have := hS2 i hs; omega
  · rw [List.map_append, List.map_append, hk, hk1, hk2, List.map_take, List.map_take, hkey]
  · have h3 : ns1.length ≤ room := by
      have := congrArg List.length hk1
      rw [List.length_map, List.length_map, List.length_take] at this
      omega
    rw [List.length_append]; omega
  · rcases hg with hg | hg
    · rcases hi with hi | hi
      · exact hdis i hi hg
      · have := hS2 i hg; omega
    · have := F1.inw i hi; omega
  · rcases hi with hi | hi
    · exact .inl hi
    · exact .inr hi.1
  · rcases hi with hi | hi
    · exact .inl hi
    · exact .inr (by omega)
/-- Behind k rounds of writing over. -/
def SpLoop (wx wr : World) (n₀ M : Nat) (v : Value) (ns : List Mg) (lo hi : Nat → Nat) (k : Nat) : Prop := (∀ j x, k ≤ j → ns[j]? = some x → MgIn wr (lo j) (hi j) x) ∧ wr.ownsRow n₀ 54 5 v ns.length (mcs ns) ∧ Off (fun i => n₀ ≤ i ∧ i < M) wx wr

set_option maxHeartbeats 3200000 in
set_option maxRecDepth 100000 in
theorem does_send (w : World) (S1 S2 : Nat → Prop) (g1 g2 : Nat) (ms1 ms2 : List Mg) (a : Ac) (P : Nat → Prop) (h1 : Fli w S1 g1 ms1) (h2 : Fli w S2 g2 ms2) (hk : ms1.map mkey = ms2.map mkey) (hms : ms1.length ≤ 1024) (hdis : ∀ i, S1 i → ¬ S2 i)
    (ha : AcR w P a) (hP : ∀ i, P i → i < w.heap.size ∧ ¬ S1 i ∧ ¬ S2 i) (hsh : ShortA a)
    (hI : -9223372036854775808 ≤ a.kind ∧ a.kind ≤ 9223372036854775807) (hz2 : a.kind % 5 ≠ 2) (hz3 : a.kind % 5 ≠ 3) (hz4 : a.kind % 5 ≠ 4) :
    Calls Try.prog 29 #[.pointer (some ⟨g1, 0, none⟩), .pointer (some ⟨g2, 0, none⟩), .agg (av a).toArray] w fun r w' => r = .returned (.bool true) ∧ Both w w' S1 S2 g1 g2 := by
  obtain ⟨w0, hw0⟩ : ∃ w0, w0 = w.alloc (.cells (av a).toArray 50) := ⟨_, rfl⟩
  have b0 : Below w.heap.size w w0 := by rw [hw0]; exact (Below.refl _ _).alloc (Nat.le_refl _) _
  have z0 : w.heap.size < w0.heap.size := by rw [hw0]; simp
  have A0 : BoxV w0 w.heap.size (av a) 50 := by rw [hw0]; exact heap_alloc_new w _
  have c0 := A0.cell 0 _ rfl
  obtain ⟨ζ, hζ⟩ : ∃ ζ, ζ = a.kind % 5 := ⟨_, rfl⟩
  rw [← hζ] at hz2 hz3 hz4
  have e2 : (ζ == 2) = false := by simp [hz2]
  have e3 : (ζ == 3) = false := by simp [hz3]
  have e4 : (ζ == 4) = false := by simp [hz4]
  have L0 : RM w0 P a.A a.n a.msgs := ha.1.keep fun i hi => b0.block i (hP i hi).1
  have hn40 : a.n ≤ 40 := hsh.1
  have hfit : ∀ m ∈ a.msgs, Fits m := fun m hm => (hsh.2 m hm).fits
  have hln := L0.len
  obtain ⟨AA, hAA⟩ : ∃ AA, AA = a.A := ⟨_, rfl⟩
  rw [← hAA] at L0
  have HAA := Lib.hid hAA
  go_enter Try.func29, Try.ntmps29
  simp only [av] at hw0 ⊢
  rw [← hAA] at hw0 ⊢
  clear hAA
  rw [hw0] at c0
  go_wp2_with fail
  rw [← hw0] at c0 ⊢
  clear hw0
  refine (pick_pos a.kind 5 w0 (by decide) (by decide) hI.1 hI.2).mono ?_
  rintro e _ ⟨he, rfl⟩
  rw [← hζ] at he
  obtain rfl := he
  clear hζ c0 hz2 hz3 hz4
  go_wp2
  go_loopw [16, 17] (fun v i wr => ∃ k : Nat, k ≤ a.n ∧ i = .int .i64 k ∧ InLoop w0 wr a.msgs v k) (fun _ i _ => a.n - (intOf i).toNat)
  case atStart => exact ⟨0, by omega, rfl, [], fun _ => 0, fun _ => 0, rfl, rfl, ⟨World.ownsRow_nil _ _ _ _, fun j x hx => by simp at hx, fun i j _ hj => by simp at hj⟩, Below.refl _ _⟩
  case round =>
    obtain ⟨k, hkn, rfl, ns, lo, hi, hnl, hkey, hR, hB⟩ := hrel
    have hzr := hB.size
    have c3 : wr.cell? ⟨w.heap.size, 3, none⟩ = some (.slice AA a.n a.c) := by rw [HAA.out]; exact (A0.kept (hB.block _ (by omega))).cell 3 _ rfl
    by_cases hlt : k < a.n
    · obtain ⟨b, off, r, hA, hPb, hr, er, hc⟩ := (L0.keep fun i hi => hB.block i (by have := (hP i hi).1; omega)).cell hlt
      subst hA
      have hki : (k : Int) < (a.n : Int) := by omega
      have hk0 : (0 : Int) ≤ (k : Int) := by omega
      have x0 := hc 0 _ rfl
      have x1 := hc 1 _ rfl
      have x2 := hc 2 _ rfl
      have x3 := hc 3 _ rfl
      have x4 := hc 4 _ rfl
      rw [Nat.add_zero] at x0
      have hfr := hfit r (List.mem_of_getElem? hr)
      have HK := Lib.hid (show ns.map mkey ++ [mkey r] = (a.msgs.take (k + 1)).map mkey from by rw [take_succ_get a.msgs k r hr, List.map_append, hkey]; rfl)
      have HR := Lib.hid hR
      have HNL := Lib.hid hnl
      clear hkey hr hc hR hnl
      go_wp2_with fail
      refine (copyMsg_any r P wr er (fun i hi => by have := (hP i hi).1; omega) hfr).mono ?_
      rintro e w1 ⟨m', rfl, hmk, hmi, b1⟩
      have z1 := b1.size
      have HMK := Lib.hid hmk
      have HMI := Lib.hid hmi
      have hrow : w1.ownsRow w0.heap.size 54 5 u16 k (mcs ns) := by
        have := own_below HR.out.row b1
        rwa [HNL.out] at this
      have hz3 : w0.heap.size ≤ w1.heap.size := by omega
      clear hmk hmi x0 x1 x2 x3 x4 c3
      simp only [mc]
      go_wp2_with (at_builtin; (refine wpList_app1 w1 #[.int .i64 m'.kind, .int .i64 m'.from_, .int .i64 m'.to_, .slice m'.VA m'.vn m'.vc, .slice m'.EA m'.en m'.ecap] rfl _ _ 48 rfl w0.heap.size 54 (.agg #[.int .i64 0, .int .i64 0, .int .i64 0, .slice none 0 0, .slice none 0 0]) 5 72 Try.underlying48 infoMsg rfl (by decide) _ k _ hrow rfl rfl rfl (fun u hu => mcs_one [m'] u (by simpa [mcs, mc] using hu)) (by omega) (by omega) hz3 ?_; intro g cap w4 hown4 hgr4 hb4 hat4 _))
      have hR4 := HR.out.push (m := m') (g := g) (cap := cap) (w2 := w4) hzr b1 HMI.out (by rw [HNL.out]; exact hown4) hgr4 hat4
      rw [HNL.out] at hR4
      have hB4 := hB.trans ((b1.mono hzr).trans hb4)
      have hl4 : (ns ++ [m']).length = k + 1 := by rw [List.length_append, HNL.out]; rfl
      have hk4 : (ns ++ [m']).map mkey = (a.msgs.take (k + 1)).map mkey := by rw [← HK.out, List.map_append, ← HMK.out]; rfl
      have HR4 := Lib.hid hR4
      have HB4 := Lib.hid hB4
      have HL4 := Lib.hid hl4
      have HK4 := Lib.hid hk4
      clear hR4 hB4 hl4 hk4 hown4 hgr4 hb4 hat4 hrow hB b1
      go_wp2
      go_roundw
      case rel => exact ⟨k + 1, by omega, by go_num, _, _, _, HL4.out, HK4.out, HR4.out, HB4.out⟩
      case measure => simp [intOf]; omega
    · obtain rfl : k = a.n := by omega
      obtain ⟨wa, rfl⟩ : ∃ wa, wa = wr := ⟨_, rfl⟩
      rw [List.take_of_length_le (Nat.le_of_eq hln)] at hkey
      obtain ⟨V, cv, rfl, hcv, hcv2, _⟩ := own_form hR.row
      have hrow := hR.row
      rw [hnl] at hcv hrow ⊢
      have nilV := own_nil hrow
      have F1a := (h1.below b0).keep hzr fun i hi => hB.block i (by have := h1.inw i hi; omega)
      have F2a := (h2.below b0).keep hzr fun i hi => hB.block i (by have := h2.inw i hi; omega)
      have La : RM wa P AA a.n a.msgs := L0.keep fun i hi => hB.block i (by have := (hP i hi).1; omega)
      have Aa := A0.kept (hB.block _ (by omega))
      have c3 : wa.cell? ⟨w.heap.size, 3, none⟩ = some (.slice AA a.n a.c) := by rw [HAA.out]; exact Aa.cell 3 _ rfl
      have hS1 : ∀ i, S1 i → i < w.heap.size := h1.inw
      have hS2 : ∀ i, S2 i → i < w.heap.size := h2.inw
      obtain ⟨room, hroom⟩ : ∃ room, room = min a.n (1024 - ms1.length) := ⟨_, rfl⟩
      obtain ⟨ρ, hρ⟩ : ∃ ρ : Int, ρ = (a.n : Int) - (room : Nat) := ⟨_, rfl⟩
      have hnM : ∀ m ∈ ns, MgR wa (fun i => w0.heap.size ≤ i ∧ i < wa.heap.size) m ∧ Fits m := fun m hm => by
        obtain ⟨j, hj, hjm⟩ := List.getElem_of_mem hm
        obtain ⟨q1, q2, q3, _⟩ := hR.at_ j m (by rw [List.getElem?_eq_getElem hj, hjm])
        exact ⟨q1.mg.more fun i hi => by omega, q1.fits⟩
      have hT1 : ∀ W, Below wa.heap.size wa W → Calls Try.prog 35 #[.pointer (some ⟨g1, 0, none⟩), .slice V a.n cv] W fun r w' => ∃ ns1, r = .returned (.int .i64 ρ) ∧ ns1.map mkey = (ns.take room).map mkey ∧ Fli w' (Grow S1 wa w') g1 (ms1 ++ ns1) ∧ Off S1 wa w' := fun W hW => by
        refine (send_any W S1 g1 ms1 (F1a.below hW) hms (fun i => w0.heap.size ≤ i ∧ i < wa.heap.size) V a.n cv ns ((own_reads hrow).keep fun i hi => hW.block i hi.2) (fun m hm => ⟨(hnM m hm).1.keep fun i hi => hW.block i hi.2, (hnM m hm).2⟩) (fun i hi => ⟨by have := hW.size; omega, fun hs => by have := hS1 i hs; omega⟩) hcv hcv2 nilV).mono ?_
        rintro r w' ⟨ns1, he, h5, h6, h7⟩
        rw [← hroom] at he h5
        rw [← hρ] at he
        have hzW := hW.size
        have hz' := h7.size
        refine ⟨ns1, he, h5, h6.more (fun i hi => ?_) (fun i hi => ?_), (Off.of hW).cat h7 fun i hi => .inl hi⟩
        · rcases hi with hi | hi
          · exact .inl hi
          · exact .inr ⟨by omega, hi.2⟩
        · rcases hi with hi | hi
          · have := hS1 i hi; omega
          · exact hi.2
      have hroom2 : room = min a.n (1024 - ms2.length) := by rw [hroom, mlen hk]
      have hT2 : ∀ W, Off S1 wa W → Calls Try.prog 51 #[.pointer (some ⟨g2, 0, none⟩), .slice AA a.n a.c] W fun r w' => ∃ ns2, r = .returned (.int .i64 ρ) ∧ ns2.map mkey = (a.msgs.take room).map mkey ∧ Fli w' (Grow S2 W w') g2 (ms2 ++ ns2) ∧ Off S2 W w' := fun W hW => by
        refine (refSend_any W S2 g2 ms2 (F2a.off hW (fun i hi hs => hdis i hs hi)) (by rw [← mlen hk]; exact hms) P AA a.n a.c a.msgs (La.1.keep fun i hi => hW.2 i (by have := (hP i hi).1; omega) (hP i hi).2.1) (fun m hm => ⟨(La.2 m hm).keep fun i hi => hW.2 i (by have := (hP i hi).1; omega) (hP i hi).2.1, hfit m hm⟩) (fun i hi => ⟨by have := (hP i hi).1; have := hW.size; omega, (hP i hi).2.2⟩) (by omega)).mono ?_
        rintro r w' ⟨ns2, he, h5, h6, h7⟩
        rw [← hroom2] at he h5
        rw [← hρ] at he
        exact ⟨ns2, he, h5, h6, h7⟩
      have hD : ∀ W, Off S1 wa W → W.cell? ⟨w.heap.size, 3, none⟩ = some (.slice AA a.n a.c) := fun W hW => by rw [HAA.out]; exact (Aa.kept (hW.2 _ (by omega) (fun hs => by have := hS1 _ hs; omega))).cell 3 _ rfl
      have T1 := Lib.hid hT1
      have T2 := Lib.hid hT2
      have D := Lib.hid hD
      have G0 : Below wa.heap.size wa wa := Below.refl _ _
      have dρ : (ρ == ρ) = true := by simp
      have HKEY := Lib.hid hkey
      have HR := Lib.hid hR
      have HNL := Lib.hid hnl
      have HRM := Lib.hid hroom
      have HRO := Lib.hid hrow
      clear hT1 hT2 hD hkey hR hnl hroom hroom2 hρ hrow hnM Aa
      go_upto_region 20 with fail
      go_cut [18] from 109 to 116 (fun s18 wz => s18 = .bool true ∧ ∃ wx, wx = wz ∧ Both wa wx S1 S2 g1 g2)
      case first =>
        go_region_law (first
          | (go_simp; go_at_call 35; with_reducible refine Calls.mono (T1.out _ ?_) ?_; (first | assumption | exact Below.drew (by assumption)); rintro e w' ⟨ns1, rfl, hk1, F1', O1'⟩; have q3 := D.out w' O1')
          | (go_simp; go_at_call 51; with_reducible refine Calls.mono (T2.out _ ?_) ?_; (first | assumption); rintro e w'' ⟨ns2, rfl, hk2, F2', O2'⟩))
        all_goals
          have hboth := sent F1' O1' F2' O2' hk hk1 hk2 HKEY.out (by have := HRM.out; omega) (fun i hi => by have := hS1 i hi; omega) (fun i hi => by have := hS2 i hi; omega) hdis
          have HBO := Lib.hid hboth
          clear hboth F1' O1' F2' O2' hk1 hk2
          go_wp2_with fail
          go_meet
          case rel => exact ⟨rfl, _, rfl, HBO.out⟩
      case rest =>
        obtain ⟨rfl, wx, rfl, Ta, Tb, n1, n2, G1, G2, hkk, hlen, hd, hs1, hs2, OS⟩ := hcut
        have zx := OS.size
        have hnS : ∀ i, w.heap.size ≤ i → ¬ (S1 i ∨ S2 i) := fun i hi hs => by
          rcases hs with hs | hs
          · have := hS1 i hs; omega
          · have := hS2 i hs; omega
        have hxx : ∀ i, w.heap.size ≤ i → i < wa.heap.size → wx.heap[i]? = wa.heap[i]? := fun i h5 h6 => OS.2 i h6 (hnS i h5)
        have hstart : SpLoop wx wx w0.heap.size wa.heap.size (.slice V a.n cv) ns lo hi 0 := by
          refine ⟨fun j x _ hx => ?_, ?_, Off.refl _ _⟩
          · obtain ⟨q1, q2, q3, _⟩ := HR.out.at_ j x hx
            exact q1.keep fun i h5 h6 => hxx i (by omega) (by omega)
          · rw [HNL.out]
            exact own_keep HRO.out fun i hi => by have := HRO.out.lt i hi; exact hxx i (by omega) this.2
        have Lx : RM wx P AA a.n a.msgs := La.keep fun i hi => OS.2 i (by have := (hP i hi).1; omega) (fun hs => by rcases hs with hs | hs; exact (hP i hi).2.1 hs; exact (hP i hi).2.2 hs)
        have Ax : BoxV wx w.heap.size (av a) 50 := (A0.kept (hB.block _ (by omega))).kept (hxx _ (Nat.le_refl _) (by omega))
        have HST := Lib.hid hstart
        clear hstart c3 La F1a F2a T1 T2 D G0 dρ
        go_wp2
        go_loopw [18, 19] (fun s18 i wr => s18 = .bool true ∧ ∃ k : Nat, k ≤ a.n ∧ i = .int .i64 k ∧ SpLoop wx wr w0.heap.size wa.heap.size (.slice V a.n cv) ns lo hi k) (fun _ i _ => a.n - (intOf i).toNat)
        case atStart => exact ⟨rfl, 0, by omega, rfl, HST.out⟩
        case round =>
          obtain ⟨rfl, k, hkn, rfl, hMI, hrow2, O2⟩ := hrel
          have zr := O2.size
          by_cases hlt : k < a.n
          · obtain ⟨x, hx⟩ : ∃ x, ns[k]? = some x := ⟨_, List.getElem?_eq_getElem (by rw [HNL.out]; exact hlt)⟩
            obtain ⟨q1, q2, q3, q4⟩ := HR.out.at_ k x hx
            obtain ⟨gi, cv', ev, _, _, hgi, hgi2⟩ := own_at hrow2 (by rw [HNL.out]; omega)
            injection ev with ev ev2 ev3
            clear ev2 ev3
            subst ev
            have hgout : gi < lo k ∨ hi k ≤ gi := q4 gi rfl
            have hX := hMI k x (Nat.le_refl _) hx
            have Lr : RM wr P AA a.n a.msgs := Lx.keep fun i hi => O2.2 i (by have := (hP i hi).1; omega) (fun hs => by have := (hP i hi).1; omega)
            have Ar := Ax.kept (O2.2 _ (by omega) (fun hs => by omega))
            obtain ⟨b, off, r, hA, hPb, hr, er, hc⟩ := Lr.cell hlt
            subst hA
            have hxr := mkeys_at HKEY.out hx hr
            have hki : (k : Int) < (a.n : Int) := by omega
            have hk0 : (0 : Int) ≤ (k : Int) := by omega
            have hrow3 := hrow2
            rw [HNL.out] at hrow3
            have hrc : ∀ j u, (mc x)[j]? = some u → wr.cell? ⟨gi, k * 5 + j, none⟩ = some u := fun j u hu => by
              have hj : j < 5 := by have := (List.getElem?_eq_some_iff.1 hu).1; rwa [mc_length] at this
              have := Reads.cell (Reads.of_own hrow3) rfl (j := k * 5 + j) (u := u) (by rw [mcs_get ns k j x hx hj]; exact hu)
              rwa [Nat.zero_add] at this
            obtain ⟨ι, W, hne, hW0, hWB, hWall⟩ := family wr.heap.size wr
            have r0 : ∀ m, (W m).cell? ⟨gi, k * 5, none⟩ = some (.int .i64 x.kind) := fun m => ((hWB m).cell (p := ⟨gi, k * 5, none⟩) hgi2).trans (by have := hrc 0 _ rfl; rwa [Nat.add_zero] at this)
            have r1 : ∀ m, (W m).cell? ⟨gi, k * 5 + 1, none⟩ = some (.int .i64 x.from_) := fun m => ((hWB m).cell (p := ⟨gi, k * 5 + 1, none⟩) hgi2).trans (hrc 1 _ rfl)
            have r2 : ∀ m, (W m).cell? ⟨gi, k * 5 + 2, none⟩ = some (.int .i64 x.to_) := fun m => ((hWB m).cell (p := ⟨gi, k * 5 + 2, none⟩) hgi2).trans (hrc 2 _ rfl)
            have r3 : ∀ m, (W m).cell? ⟨gi, k * 5 + 3, none⟩ = some (.slice x.VA x.vn x.vc) := fun m => ((hWB m).cell (p := ⟨gi, k * 5 + 3, none⟩) hgi2).trans (hrc 3 _ rfl)
            have r4 : ∀ m, (W m).cell? ⟨gi, k * 5 + 4, none⟩ = some (.slice x.EA x.en x.ecap) := fun m => ((hWB m).cell (p := ⟨gi, k * 5 + 4, none⟩) hgi2).trans (hrc 4 _ rfl)
            have hbw : b < wr.heap.size := by have := (hP b hPb).1; omega
            have s0 : ∀ m, (W m).cell? ⟨b, off + k * 5, none⟩ = some (.int .i64 r.kind) := fun m => ((hWB m).cell (p := ⟨b, off + k * 5, none⟩) hbw).trans (by have := hc 0 _ rfl; rwa [Nat.add_zero] at this)
            have s1 : ∀ m, (W m).cell? ⟨b, off + k * 5 + 1, none⟩ = some (.int .i64 r.from_) := fun m => ((hWB m).cell (p := ⟨b, off + k * 5 + 1, none⟩) hbw).trans (hc 1 _ rfl)
            have s2 : ∀ m, (W m).cell? ⟨b, off + k * 5 + 2, none⟩ = some (.int .i64 r.to_) := fun m => ((hWB m).cell (p := ⟨b, off + k * 5 + 2, none⟩) hbw).trans (hc 2 _ rfl)
            have s3 : ∀ m, (W m).cell? ⟨b, off + k * 5 + 3, none⟩ = some (.slice r.VA r.vn r.vc) := fun m => ((hWB m).cell (p := ⟨b, off + k * 5 + 3, none⟩) hbw).trans (hc 3 _ rfl)
            have s4 : ∀ m, (W m).cell? ⟨b, off + k * 5 + 4, none⟩ = some (.slice r.EA r.en r.ecap) := fun m => ((hWB m).cell (p := ⟨b, off + k * 5 + 4, none⟩) hbw).trans (hc 4 _ rfl)
            have bx : ∀ m, (W m).cell? ⟨w.heap.size, 3, none⟩ = some (.slice (some ⟨b, off, none⟩) a.n a.c) := fun m => by rw [HAA.out]; exact (Ar.kept ((hWB m).block _ (by omega))).cell 3 _ rfl
            have XX := Lib.hid fun m => hX.below (hWB m) (by omega)
            have RR := Lib.hid fun m => er.keep fun i hi => (hWB m).block i (by have := (hP i hi).1; omega)
            have HP1 := Lib.hid (show ∀ m i, (lo k ≤ i ∧ i < hi k) → i < (W m).heap.size from fun m i hi => by have := (hWB m).size; omega)
            have HP2 := Lib.hid (show ∀ m i, P i → i < (W m).heap.size from fun m i hi => by have := (hWB m).size; have := (hP i hi).1; omega)
            have HWB := Lib.hid hWB
            have HWall := Lib.hid hWall
            have HXR := Lib.hid hxr
            have HMI := Lib.hid hMI
            have HX := Lib.hid hx
            have HRW := Lib.hid hrow2
            have c3r : wr.cell? ⟨w.heap.size, 3, none⟩ = some (.slice (some ⟨b, off, none⟩) a.n a.c) := by rw [HAA.out]; exact Ar.cell 3 _ rfl
            clear hWB hWall hxr hMI hx hrow2 hrow3 hc hrc er hr hX Ar Lr
            go_upto_region 24 with fail
            clear c3r
            refine wp_region_family (by kernel_rfl) (by kernel_rfl) hW0 ?_
            repeat (go_big_quiet_step ((go_at_call 34; exact calls_family (sameMsg_yes _ _ x r _ (XX.out _).mg (RR.out _) HXR.out (HP1.out _) (HP2.out _)) HWB.out (Nat.le_refl _) HWall.out)))
            refine wpQuiet_nil ?_
            rintro _ ⟨nq, rfl⟩
            have p3 := r3 nq
            have p4 := r4 nq
            have X5 := XX.out nq
            have B5 := HWB.out nq
            have z5 := B5.size
            obtain ⟨wq, hwq⟩ : ∃ wq, wq = W nq := ⟨_, rfl⟩
            rw [← hwq] at p3 p4 X5 B5 z5 ⊢
            clear r0 r1 r2 r3 r4 s0 s1 s2 s3 s4 bx hne hW0 hwq
            go_wp2_with fail
            refine (spoilInts_any _ x.VA x.vn x.vc wq X5.softV X5.fits.1).mono ?_
            rintro e w6 ⟨⟨u6', rfl⟩, s6⟩
            have p6 : w6.cell? ⟨gi, k * 5 + 4, none⟩ = some (.slice x.EA x.en x.ecap) := (World.cell?_of_block (w := wq) (s6.far gi (fun e => by omega))).trans p4
            have z6 := s6.size
            obtain ⟨e1, e2⟩ := X5.afterV s6
            clear p3 p4
            go_wp2_with fail
            refine (spoilEvents_in x.EA x.en x.ecap x.evs (lo k) (hi k) w6 e1 e2 X5.fits.2.1).mono ?_
            rintro e w7 ⟨⟨u7', rfl⟩, s7⟩
            have z7 := s7.size
            have hfar : ∀ i, ¬ (lo k ≤ i ∧ i < hi k) → i < wr.heap.size → w7.heap[i]? = wr.heap[i]? := fun i h5 h6 => (s7.far i h5).trans ((s6.far i (fun e => h5 ⟨e.1, e.2.1⟩)).trans (B5.block i h6))
            have hnew : SpLoop wx w7 w0.heap.size wa.heap.size (.slice (some ⟨gi, 0, none⟩) a.n cv) ns lo hi (k + 1) := by
              refine ⟨fun j y hj hy => ?_, own_keep HRW.out fun i hi => ?_, ?_⟩
              · have hjl := (List.getElem?_eq_some_iff.1 hy).1
                have hap := HR.out.apart k j (by omega) hjl
                have hat := HR.out.at_ j y hy
                exact (HMI.out j y (by omega) hy).keep fun i h5 h6 => hfar i (by omega) (by omega)
              · obtain rfl : gi = i := Option.some.inj hi
                exact hfar gi (by omega) hgi2
              · have o5 : Off (fun i => w0.heap.size ≤ i ∧ i < wa.heap.size) wx wq := O2.low B5
                exact (o5.cat (T := fun i => lo k ≤ i ∧ i < hi k) ⟨s6.b0, fun i _ hi => s6.far i fun e => hi ⟨e.1, e.2.1⟩⟩ (fun i hi => .inl (by omega))).cat (T := fun i => lo k ≤ i ∧ i < hi k) ⟨s7.b0, fun i _ hi => s7.far i hi⟩ (fun i hi => .inl (by omega))
            have HNW := Lib.hid hnew
            clear hnew hfar s6 s7 e1 e2 X5 B5 p6
            go_wp2
            go_roundw
            case rel => exact ⟨rfl, k + 1, by omega, by go_num, HNW.out⟩
            case measure => simp [intOf]; omega
          · obtain rfl : k = a.n := by omega
            have hfin : Both w wr S1 S2 g1 g2 := by
              have oo : Off (fun i => S1 i ∨ S2 i) w wr := (((Off.of b0).low hB).cat OS fun i hi => .inl hi).cat O2 fun i hi => .inr (by omega)
              refine ⟨Ta, Tb, n1, n2, G1.off O2 (fun i hi hs => ?_), G2.off O2 (fun i hi hs => ?_), hkk, hlen, hd, fun i hi => ?_, fun i hi => ?_, oo⟩
              · rcases hs1 i hi with h5 | h5
                · have := hS1 i h5; omega
                · omega
              · rcases hs2 i hi with h5 | h5
                · have := hS2 i h5; omega
                · omega
              · rcases hs1 i hi with h5 | h5
                · exact .inl h5
                · exact .inr (by omega)
              · rcases hs2 i hi with h5 | h5
                · exact .inl h5
                · exact .inr (by omega)
            have HFIN := Lib.hid hfin
            have c3r : wr.cell? ⟨w.heap.size, 3, none⟩ = some (.slice AA a.n a.c) := by rw [HAA.out]; exact (Ax.kept (O2.2 _ (by omega) (fun hs => by omega))).cell 3 _ rfl
            clear hfin hMI hrow2 G1 G2 hs1 hs2 hd OS O2
            go_wp2
            go_ret
            exact ⟨rfl, HFIN.out⟩
end Go.Proofs.Ytcidmlpjobdakaa
