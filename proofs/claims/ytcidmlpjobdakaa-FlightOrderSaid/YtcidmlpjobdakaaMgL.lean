/- The walk of FlightOrder. -/
import Derived.Test.YtcidmlpjobdakaaMgK
import Derived.Test.YtcidmlpjobdakaaMgJ
namespace Go.Proofs.Ytcidmlpjobdakaa
open Go.RowKit

theorem own_off {w w' : World} {S : Nat → Prop} {base : Nat} {e : TypeId} {size : Nat} {v : Value} {n : Nat} {xs : List Value} (h : w.ownsRow base e size v n xs) (ho : Off S w w') (hv : ∀ b, v.ownBlock = some b → ¬ S b) : w'.ownsRow base e size v n xs := by
  refine ⟨h.1, ?_⟩
  rcases h.2 with h2 | ⟨g, cap, cur, rfl, hg, hh, r⟩
  · exact .inl h2
  · exact .inr ⟨g, cap, cur, rfl, hg, by rw [ho.2 g (Array.getElem?_eq_some_iff.1 hh).1 (hv g rfl)]; exact hh, r⟩
theorem step_appN {P : Program} (w : World) {ops : Array Oper} {o : Oper} {a : Act} {K : Act → World → Prop} {Q : Exit → Act → World → Prop} {E : Prop} (hgd : o.guard = none) (s x : Operand) (t : TypeId)
    (ho : o.op = .call { callee := .builtin .append, args := #[s, x], argTypes := #[t, t] })
    (base : Nat) (e : TypeId) (z : Value) (size bytes : Nat) (ht : P.underlying t = some (.slice e)) (hi : (P.info? e).map (fun i => (i.zero, i.size, i.bytes)) = some (some z, size, bytes))
    (hzs : z.cells.size = size) (hsz : 0 < size)
    (v : Value) (n : Nat) (xs : List Value) (hown : w.ownsRow base e size v n xs) (hs : a.eval s = v)
    (Pr : Nat → Prop) (A : Option Addr) (m c : Nat) (news : List Value) (hr : Reads w Pr size A m news) (hx : a.eval x = .slice A m c) (h1 : ∀ u ∈ news, u.oneCell' = true)
    (h63 : n + m ≤ 9223372036854775807) (hbytes : (n + m) * bytes ≤ 140737488355328) (hbase : base ≤ w.heap.size)
    (h : ∀ v' w', w'.ownsRow base e size v' (n + m) (xs ++ news) → w.grownBy w' v.ownBlock → Below base w w' → (v'.ownBlock = v.ownBlock ∨ v'.ownBlock = some w.heap.size) → K (a.put o.dst v') w') :
    if Region.wanted o (yielded ops a.tmps) = true then Oper.wp P o a w K Q else E := by
  have hw : Region.wanted o (yielded ops a.tmps) = true := by simp [Region.wanted, hgd]
  rw [if_pos hw]
  obtain ⟨v', w', hr1, h2, h3, h4, h5⟩ := run_appN (P := P) w base t o.type e z size bytes ht hi hzs hsz v n xs hown Pr A m c news hr h1 h63 hbytes hbase
  unfold Oper.wp
  simp [execOp, ho, resolve, invoke, builtin, hs, hx, hr1, Result.andThen]
  exact h v' w' h2 h3 h4 h5

set_option maxHeartbeats 3200000 in
set_option maxRecDepth 100000 in
theorem order_walk (A : Option Addr) (n c : Nat) (l : List Mg) (B : Option Addr) (m d : Nat) (zs : List Int) (w : World) (hl : RM w (· < w.heap.size) A n l) (hn : n ≤ c) (hc : c ≤ 9223372036854775807) (hnil : A = none → c = 0)
    (hz : RN w (· < w.heap.size) B m zs) (hzs : ∀ z ∈ zs, -9223372036854775808 ≤ z ∧ z ≤ 9223372036854775807) (hm : m ≤ 9223372036854775807) :
    Calls Try.prog 10 #[.slice A n c, .slice B m d] w fun r w' => r = .returned (.bool true) ∧ Below w.heap.size w w' := by
  obtain ⟨w1, hw1⟩ : ∃ w1, w1 = w.alloc (.cells #[.int .i64 0, .int .i64 0, .int .i64 0, .slice A n c] 50) := ⟨_, rfl⟩
  have k1 : Below w.heap.size w w1 := by rw [hw1]; exact (Below.refl _ _).alloc (Nat.le_refl _) _
  have hra := RA.one hl hn hc hnil
  rw [← hw1] at hra
  go_enter Try.func10, Try.ntmps10
  go_wp2_with fail
  rw [← hw1]
  clear hw1
  refine (long29_any _ _ 1 1 _ w1 hra (by omega)).mono ?_
  rintro e w2 ⟨β, rfl, hβ, q, rfl⟩
  have k2 := below_drewN k1 q
  generalize w1.drewN q = w2 at *
  clear hra k1
  cases β with
  | true =>
    clear hβ
    go_wp2_with fail
    refine (known29 w2).mono ?_
    rintro e w3 ⟨rfl, b3⟩
    have k3 := next_below k2 b3
    go_wp2
    go_ret
    exact ⟨rfl, k3⟩
  | false =>
    obtain ⟨hn40, hshort⟩ := (hβ rfl).2 _ (List.mem_singleton.2 rfl)
    simp only at hn40 hshort
    have HSH := Lib.hid hshort
    clear hβ hshort
    have hlen := hl.len
    have HL := Lib.hid hl
    have HZ := Lib.hid hz
    have HZS := Lib.hid hzs
    clear hl hz hzs
    go_wp2_with fail
    refine (new_any w2).mono ?_
    rintro e w3 ⟨rfl, F3, b3⟩
    obtain ⟨g, hg⟩ : ∃ g, g = w2.heap.size := ⟨_, rfl⟩
    have hgB : w.heap.size ≤ g := by have := k2.size; omega
    rw [← hg] at F3 ⊢
    have k3 := next_below k2 b3
    clear hg b3 k2
    go_wp2_with fail
    refine (send_any w3 (fun i => i = g) g [] F3 (by simp) (fun i => i < w.heap.size) A n c l (HL.out.1.keep fun i hi => k3.block i hi) (fun m hm => ⟨(HL.out.2 m hm).keep fun i hi => k3.block i hi, (HSH.out m hm).fits⟩) (fun i hi => ⟨by have := k3.size; omega, by omega⟩) hn hc hnil).mono ?_
    rintro e w4 ⟨ms0, rfl, hkeys, F4, O4⟩
    rw [List.length_nil, show min n (1024 - 0) = n from by omega, show (n : Int) - (n : Int) = 0 from by omega]
    rw [List.length_nil, show min n (1024 - 0) = n from by omega, List.take_of_length_le (by omega)] at hkeys
    rw [List.nil_append] at F4
    obtain ⟨S, hS⟩ : ∃ S, S = Grow (fun i => i = g) w3 w4 := ⟨_, rfl⟩
    rw [← hS] at F4
    have hSg : ∀ i, S i → g ≤ i := by
      intro i hi
      rw [hS] at hi
      have := F3.fresh.2.1
      rcases hi with hi | hi <;> omega
    have k4 : Below w.heap.size w w4 := k3.trans (O4.below (fun i hi => by omega) k3.size)
    have hnl : ms0.length = n := by rw [← hlen]; simpa using congrArg List.length hkeys
    have HK := Lib.hid hkeys
    clear hS F3 O4 k3 hkeys
    go_wp2_with fail
    refine (len_fix w4 S g ms0 F4 n (by rw [hnl])).mono ?_
    rintro e _ ⟨rfl, rfl⟩
    have hee : ((n : Int) != (n : Int)) = false := by simp
    have hown0 : (w4.alloc (.cells #[] 54)).ownsRow w4.heap.size 54 5 (.slice (some ⟨w4.heap.size, 0, none⟩) 0 0) 0 [] := World.ownsRow_made w4 #[] 0 (Nat.le_refl _) (by decide) rfl
    have b5 : Below w4.heap.size w4 (w4.alloc (.cells #[] 54)) := (Below.refl _ _).alloc (Nat.le_refl _) _
    have hr0 : Reads (w4.alloc (.cells #[] 54)) (· < w.heap.size) 5 A n (mcs l) := Reads.keep HL.out.1 fun i hi => (next_below k4 b5).block i hi
    go_wp2_with (at_builtin; (refine wpList_appN _ rfl _ _ 48 rfl w4.heap.size 54 (.agg #[.int .i64 0, .int .i64 0, .int .i64 0, .slice none 0 0, .slice none 0 0]) 5 72 Try.underlying48 infoMsg rfl (by decide) _ 0 _ hown0 rfl _ _ n c _ hr0 rfl (mcs_one l) (by omega) (by omega) (by simp) ?_); intro v6 w6 hown6 _ hb6 _)
    have hown6 : w6.ownsRow w4.heap.size 54 5 v6 n (mcs l) := by rw [Nat.zero_add, List.nil_append] at hown6; exact hown6
    have k6 := k4.trans ((b5.mono k4.size).trans (hb6.mono k4.size))
    have F6 := F4.below (b5.trans hb6)
    have hS6 : ∀ b, v6.ownBlock = some b → ¬ S b := fun b hb hs => by have := (hown6.lt b hb).1; have := F4.inw b hs; omega
    have hown7 := own_base hown6 k4.size
    clear hown0 hr0 hb6 b5 k4 hee F4 hown6
    go_wp2
    go_loopw [6, 7] (fun v i wr => ∃ (k : Nat) (ms rs : List Mg), i = .int .i64 k ∧ wr.ownsRow w.heap.size 54 5 v rs.length (mcs rs) ∧ ms.map mkey = rs.map mkey ∧ (∀ r ∈ rs, r ∈ l) ∧ rs.length ≤ n ∧ k ≤ m ∧ Fli wr S g ms ∧ (∀ b, v.ownBlock = some b → ¬ S b) ∧ Below w.heap.size w wr) (fun _ i _ => m - (intOf i).toNat)
    case atStart => exact ⟨0, ms0, l, rfl, by rw [hlen]; exact hown7, HK.out, fun r h => h, by omega, by omega, F6, hS6, k6⟩
    case round =>
      clear hown7 HK F6 hS6 k6 hnl
      obtain ⟨k, ms, rs, rfl, hown, hkeys, hsub, hrl, hkm, F, hvS, hB⟩ := hrel
      obtain ⟨Ar, cr, rfl, hcr, hcr2, _⟩ := own_form hown
      obtain ⟨N, hN⟩ : ∃ N, N = rs.length := ⟨_, rfl⟩
      rw [← hN] at hown hrl hcr hvS ⊢
      have hml : ms.length = N := by rw [hN]; simpa using congrArg List.length hkeys
      have HK := Lib.hid hkeys
      have HSUB := Lib.hid hsub
      clear hkeys hsub
      by_cases hgo : k < m ∧ 0 < N
      · obtain ⟨hkm1, hN0⟩ := hgo
        have hk1 : (k : Int) < (m : Int) := by omega
        have hk2 : (0 : Int) ≤ (k : Int) := by omega
        have hN1 : decide ((0 : Int) < (N : Int)) = true := by simp; omega
        obtain ⟨b0, off0, z, rfl, _, hzk, cz⟩ := (HZ.out.keep fun i hi => hB.block i hi).cell hkm1
        obtain ⟨hz1, hz2⟩ := HZS.out z (List.mem_of_getElem? hzk)
        have HNN := Lib.hid hN
        clear hzk hN
        go_wp2_with fail
        refine (pick_pos z N wr (by omega) (by omega) hz1 hz2).mono ?_
        rintro e _ ⟨rfl, rfl⟩
        obtain ⟨K, hK, hKN⟩ : ∃ K : Nat, z % (N : Int) = (K : Int) ∧ K < N := by
          have h1 := Int.emod_nonneg z (show (N : Int) ≠ 0 by omega)
          have h2 := Int.emod_lt_of_pos z (show 0 < (N : Int) by omega)
          exact ⟨(z % (N : Int)).toNat, by omega, by omega⟩
        rw [hK]
        obtain ⟨mm, hmm⟩ : ∃ mm, ms[K]? = some mm := ⟨_, List.getElem?_eq_getElem (by omega)⟩
        obtain ⟨rr, hrr⟩ : ∃ rr, rs[K]? = some rr := ⟨_, List.getElem?_eq_getElem (by rw [← HNN.out]; exact hKN)⟩
        clear hK cz hz1 hz2
        go_wp2_with fail
        refine (take_in wr S g ms F K mm hmm).mono ?_
        rintro e w8 ⟨x, rfl, hkx, hmx, hfx, F8, O8⟩
        have hx := Has.box (S := S) hmx (fun i hi => F.inw i hi) O8.size
        obtain ⟨w9, hw9⟩ : ∃ w9, w9 = w8.alloc (.cells (mc x).toArray 54) := ⟨_, rfl⟩
        rw [← hw9] at hx
        have b9 : Below w8.heap.size w8 w9 := by rw [hw9]; exact (Below.refl _ _).alloc (Nat.le_refl _) _
        obtain ⟨px, hpx⟩ : ∃ px, px = w8.heap.size := ⟨_, rfl⟩
        rw [← hpx] at hx
        have F9 := F8.below b9
        have O9 : Off S wr w9 := O8.trans (Off.of b9)
        have k9 : Below w.heap.size w w9 := hB.trans (O9.below (fun i hi => Nat.le_trans hgB (hSg i hi)) hB.size)
        have hown9 := own_off hown O9 hvS
        have HW9 := Lib.hid hw9
        have HPX := Lib.hid hpx
        have hkey : mkey x = mkey rr := by
          rw [hkx]
          have := congrArg (fun q => q[K]?) HK.out
          simpa [hmm, hrr] using this
        clear hw9 hpx hmx hkx F F8 O8 O9 b9 hown hmm
        simp only [mc]
        go_upto_region 12 with fail
        simp only [mc] at HW9
        rw [← HW9.out, ← HPX.out]
        clear HW9 HPX
        obtain ⟨gr, _, hAr, _, _, _, hgr⟩ := own_at hown9 hN0
        cases hAr
        obtain ⟨ι, W, hne, hW0, hWB, hWall⟩ := family w9.heap.size w9
        have cx := fun m => (hx.fre (Off.of (hWB m))).five
        have cl : ∀ j u, (mc rr)[j]? = some u → ∀ m, (W m).cell? ⟨gr, K * 5 + j, none⟩ = some u := fun j u hu m => by
          have hj : j < 5 := by have := (List.getElem?_eq_some_iff.1 hu).1; rwa [mc_length] at this
          have := Reads.cell (own_reads (own_below hown9 (hWB m))) rfl (j := K * 5 + j) (u := u) (by rw [mcs_get rs K j rr hrr hj]; exact hu)
          rwa [Nat.zero_add] at this
        have r0 := fun m => (cx m).1
        have r1 := fun m => (cx m).2.1
        have r2 := fun m => (cx m).2.2.1
        have r3 := fun m => (cx m).2.2.2.1
        have r4 := fun m => (cx m).2.2.2.2
        have s0 := cl 0 _ rfl
        have s1 := cl 1 _ rfl
        have s2 := cl 2 _ rfl
        have s3 := cl 3 _ rfl
        have s4 := cl 4 _ rfl
        rw [Nat.add_zero] at s0
        have hrl2 : rr ∈ l := HSUB.out rr (List.mem_of_getElem? hrr)
        have MX := Lib.hid fun m => (hx.fre (Off.of (hWB m)))
        have ML := Lib.hid fun m => (HL.out.2 rr hrl2).keep fun i (hi : i < w.heap.size) => (k9.trans ((hWB m).mono k9.size)).block i hi
        have HIN := Lib.hid fun m => fun i (hi : i < w.heap.size) => Nat.lt_of_lt_of_le hi (Nat.le_trans k9.size (hWB m).size)
        have HWB := Lib.hid hWB
        have HWall := Lib.hid hWall
        have HKX := Lib.hid hkey
        have hK1 : (K : Int) < (N : Int) := by omega
        have hK0 : (0 : Int) ≤ (K : Int) := by omega
        clear hWB hWall cx cl hkey hx hrr hrl2
        refine wp_region_family (by kernel_rfl) (by kernel_rfl) hW0 ?_
        repeat (go_big_quiet_step ((go_at_call 34; exact calls_family (sameMsg_yes _ _ x rr _ (MX.out _).mg (ML.out _) HKX.out (MX.out _).inw (HIN.out _)) HWB.out (Nat.le_refl _) HWall.out)))
        refine wpQuiet_nil ?_
        rintro _ ⟨nq, rfl⟩
        have F10 := F9.below (HWB.out nq)
        have k10 := next_below k9 (HWB.out nq)
        have hown10 := own_below hown9 (HWB.out nq)
        clear r0 r1 r2 r3 r4 s0 s1 s2 s3 s4 F9 k9 hown9 HWall MX ML HIN HKX
        generalize W nq = w10 at *
        go_upto_region 14 with fail
        have hrsl : rs.length = N := HNN.out.symm
        have hrd : ∀ Wd, Below w10.heap.size w10 Wd → Reads Wd (fun i => i < w10.heap.size) 5 (some ⟨gr, 0, none⟩) N (mcs rs) := fun Wd h => Reads.keep (Reads.more (own_reads hown10) fun i hi => hi.2) fun i hi => h.block i hi
        have hT1 : ∀ Wd, Below w10.heap.size w10 Wd → Reads Wd (fun i => i < w10.heap.size) 5 (some ⟨gr, 0, none⟩) K (mcs (rs.take K)) := fun Wd h => by
          rw [← mcs_take]; exact (hrd Wd h).take (by omega)
        have hT2 : ∀ Wd, Below w10.heap.size w10 Wd → Reads Wd (fun i => i < w10.heap.size) 5 (if cr = K + 1 then some ⟨gr, 0, none⟩ else some ⟨gr, (K + 1) * 5, none⟩) (N - (K + 1)) (mcs (rs.drop (K + 1))) := fun Wd h => by
          rw [← mcs_drop]
          exact (hrd Wd h).drop (by omega) _ fun hlt => by rw [if_neg (by omega), Nat.zero_add]
        have T1 := Lib.hid hT1
        have T2 := Lib.hid hT2
        have hKc : K ≤ cr := by omega
        have hKN1 : K + 1 ≤ N := by omega
        have hk3 : ((K : Int) + 1).toNat = K + 1 := by omega
        have hk4 : (0 : Int) ≤ (K : Int) + 1 := by omega
        have hw1 : IntKind.i64.wrap ((K : Int) + 1) = (K : Int) + 1 := IntWalk.i64_in _ (by omega)
        have hk5 : (K : Int) + 1 ≤ (N : Int) := by omega
        have B10 : Below w10.heap.size w10 (w10.alloc (.cells #[] 54)) := (Below.refl _ _).alloc (Nat.le_refl _) _
        clear hT1 hT2 hrd
        go_region_law (first
            | (refine step_appN _ rfl (.tmp 79) (.tmp 83) 48 rfl w10.heap.size 54 (.agg #[.int .i64 0, .int .i64 0, .int .i64 0, .slice none 0 0, .slice none 0 0]) 5 72 Try.underlying48 infoMsg rfl (by decide) v11 (0 + K) _ hown11 (by simp [Act.eval, Act.put]) _ _ (N - (K + 1)) _ (mcs (rs.drop (K + 1))) (T2.out _ (by first | exact B10.drew.trans hb11 | exact B10.trans hb11 | exact (B10.drew.trans hb11).drew | exact (B10.trans hb11).drew)) (by simp [Act.eval, Act.put]; rfl) (mcs_one _) (by omega) (by omega) (by have := hb11.size; simp at this; omega) ?_
               intro v12 w12 hown12 hg12 hb12 hat12)
            | (refine step_appN _ rfl (.tmp 75) (.tmp 78) 48 rfl w10.heap.size 54 (.agg #[.int .i64 0, .int .i64 0, .int .i64 0, .slice none 0 0, .slice none 0 0]) 5 72 Try.underlying48 infoMsg rfl (by decide) (.slice (some ⟨w10.heap.size, 0, none⟩) 0 0) 0 [] (World.ownsRow_made w10 #[] 0 (Nat.le_refl _) (by decide) rfl) (by simp [Act.eval, Act.put]) _ (some ⟨gr, 0, none⟩) K cr (mcs (rs.take K)) (T1.out _ (by first | exact B10.drew | exact B10)) (by simp [Act.eval, Act.put]) (mcs_one _) (by omega) (by omega) (by simp) ?_
               intro v11 w11 hown11 hg11 hb11 hat11))
        have hera : rs.eraseIdx K = rs.take K ++ rs.drop (K + 1) := List.eraseIdx_eq_take_drop_succ _ _
        have hel : (rs.eraseIdx K).length = 0 + K + (N - (K + 1)) := by rw [List.length_eraseIdx, hrsl, if_pos hKN]; omega
        have hown13 : w12.ownsRow w.heap.size 54 5 v12 (rs.eraseIdx K).length (mcs (rs.eraseIdx K)) := by
          rw [hel, hera, mcs_append]
          rw [List.nil_append] at hown12
          exact own_base hown12 k10.size
        have hkey13 : (ms.eraseIdx K).map mkey = (rs.eraseIdx K).map mkey := by
          rw [hera, List.eraseIdx_eq_take_drop_succ, List.map_append, List.map_append, List.map_take, List.map_drop, List.map_take, List.map_drop, HK.out]
        have hsub13 : ∀ r ∈ rs.eraseIdx K, r ∈ l := fun r hr => HSUB.out r (List.mem_of_mem_eraseIdx hr)
        have b12 : Below w10.heap.size w10 w12 := (B10.drew.trans hb11).trans hb12
        have F12 := F10.below b12
        have k12 := next_below k10 b12
        have hvS12 : ∀ b, v12.ownBlock = some b → ¬ S b := fun b hb hs => by have := (hown12.lt b hb).1; have := F10.inw b hs; omega
        have H1 := Lib.hid hown13
        have H2 := Lib.hid hkey13
        have H3 := Lib.hid hsub13
        have H4 := Lib.hid hvS12
        have H5 := Lib.hid (show (rs.eraseIdx K).length ≤ n by omega)
        clear hown13 hkey13 hsub13 hvS12 hera hel hown12 hown11 hg11 hg12 hb11 hb12 hat11 hat12 hown10 F10 k10
        go_wp2
        go_roundw
        case rel => exact ⟨k + 1, ms.eraseIdx K, rs.eraseIdx K, by go_num, H1.out, H2.out, H3.out, H5.out, by omega, F12, H4.out, k12⟩
        case measure => simp [intOf]; omega
      · have hor : ¬ k < m ∨ (k < m ∧ ¬ 0 < N) := by omega
        have hrd : Reads wr (Fre S wr) 5 Ar N (mcs rs) := (Reads.of_own hown).more fun i hi => by
          have hb : (Value.slice Ar N cr).ownBlock = some i := by cases Ar <;> exact hi
          exact ⟨hvS i hb, (hown.lt i hb).2⟩
        have hNN : rs.length = N := hN.symm
        have HNN := Lib.hid hNN
        clear hgo hown hvS hN hNN
        rcases hor with d1 | ⟨d1, d2⟩
        all_goals
          (go_wp2
           (try clear d2)
           clear d1
           go_loopw [11] (fun i wr2 => ∃ j : Nat, j ≤ N ∧ i = .int .i64 j ∧ Fli wr2 S g (ms.drop j) ∧ Reads wr2 (Fre S wr2) 5 Ar N (mcs rs) ∧ Below w.heap.size w wr2) (fun i _ => N - (intOf i).toNat)
           case atStart => exact ⟨0, by omega, rfl, F, hrd, hB⟩
           case round =>
             clear F hrd hB
             obtain ⟨K, hKN', rfl, F, hrd, hB⟩ := hrel
             by_cases hlt : K < N
             · obtain ⟨mm, hmm⟩ : ∃ mm, ms[K]? = some mm := ⟨_, List.getElem?_eq_getElem (by omega)⟩
               obtain ⟨rr, hrr⟩ : ∃ rr, rs[K]? = some rr := ⟨_, List.getElem?_eq_getElem (by rw [HNN.out]; exact hlt)⟩
               have hK1 : (K : Int) < (N : Int) := by omega
               have hK0 : (0 : Int) ≤ (K : Int) := by omega
               have HT := take_in _ S g (ms.drop K) F 0 mm (by rw [List.getElem?_drop]; exact hmm)
               rw [show ((0 : Nat) : Int) = 0 from rfl] at HT
               go_wp2_with fail
               refine HT.mono ?_
               rintro e w8 ⟨x, rfl, hkx, hmx, hfx, F8, O8⟩
               rw [show (ms.drop K).eraseIdx 0 = ms.drop (K + 1) from by rw [List.eraseIdx_zero, List.tail_drop]] at F8
               have hx := Has.box (S := S) hmx (fun i hi => F.inw i hi) O8.size
               obtain ⟨w9, hw9⟩ : ∃ w9, w9 = w8.alloc (.cells (mc x).toArray 54) := ⟨_, rfl⟩
               rw [← hw9] at hx
               have b9 : Below w8.heap.size w8 w9 := by rw [hw9]; exact (Below.refl _ _).alloc (Nat.le_refl _) _
               obtain ⟨px, hpx⟩ : ∃ px, px = w8.heap.size := ⟨_, rfl⟩
               rw [← hpx] at hx
               have F9 := F8.below b9
               have O9 := O8.trans (Off.of b9)
               have k9 : Below w.heap.size w w9 := hB.trans (O9.below (fun i hi => Nat.le_trans hgB (hSg i hi)) hB.size)
               have hrd9 : Reads w9 (Fre S w9) 5 Ar N (mcs rs) := (hrd.keep fun i hi => O9.2 i hi.2 hi.1).more fun i hi => ⟨hi.1, Nat.lt_of_lt_of_le hi.2 O9.size⟩
               have HW9 := Lib.hid hw9
               have HPX := Lib.hid hpx
               have hkey : mkey x = mkey rr := by
                 rw [hkx]
                 have := congrArg (fun q => q[K]?) HK.out
                 simpa [hmm, hrr] using this
               clear hw9 hpx hmx hkx F F8 O8 O9 b9 hmm HT hrd hB
               simp only [mc]
               go_upto_region 19 with fail
               simp only [mc] at HW9
               rw [← HW9.out, ← HPX.out]
               clear HW9 HPX
               obtain ⟨gr, og, rfl, hgr⟩ := Reads.at_ hrd9 (by omega)
               obtain ⟨ι, W, hne, hW0, hWB, hWall⟩ := family w9.heap.size w9
               have hrdm : ∀ m, Reads (W m) (Fre S (W m)) 5 (some ⟨gr, og, none⟩) N (mcs rs) := fun m => (hrd9.keep fun i hi => (hWB m).block i hi.2).more fun i hi => ⟨hi.1, Nat.lt_of_lt_of_le hi.2 (hWB m).size⟩
               have cx := fun m => (hx.fre (Off.of (hWB m))).five
               have cl : ∀ j u, (mc rr)[j]? = some u → ∀ m, (W m).cell? ⟨gr, og + K * 5 + j, none⟩ = some u := fun j u hu m => by
                 have hj : j < 5 := by have := (List.getElem?_eq_some_iff.1 hu).1; rwa [mc_length] at this
                 have := Reads.cell (hrdm m) rfl (j := K * 5 + j) (u := u) (by rw [mcs_get rs K j rr hrr hj]; exact hu)
                 rwa [← Nat.add_assoc] at this
               have r0 := fun m => (cx m).1
               have r1 := fun m => (cx m).2.1
               have r2 := fun m => (cx m).2.2.1
               have r3 := fun m => (cx m).2.2.2.1
               have r4 := fun m => (cx m).2.2.2.2
               have s0 := cl 0 _ rfl
               have s1 := cl 1 _ rfl
               have s2 := cl 2 _ rfl
               have s3 := cl 3 _ rfl
               have s4 := cl 4 _ rfl
               rw [Nat.add_zero] at s0
               have hrl2 : rr ∈ l := HSUB.out rr (List.mem_of_getElem? hrr)
               have MX := Lib.hid fun m => (hx.fre (Off.of (hWB m)))
               have ML := Lib.hid fun m => (HL.out.2 rr hrl2).keep fun i (hi : i < w.heap.size) => (k9.trans ((hWB m).mono k9.size)).block i hi
               have HIN := Lib.hid fun m => fun i (hi : i < w.heap.size) => Nat.lt_of_lt_of_le hi (Nat.le_trans k9.size (hWB m).size)
               have HWB := Lib.hid hWB
               have HWall := Lib.hid hWall
               have HKX := Lib.hid hkey
               have HRDM := Lib.hid hrdm
               clear hWB hWall cx cl hkey hx hrr hrl2 hrdm hgr
               refine wp_region_family (by kernel_rfl) (by kernel_rfl) hW0 ?_
               repeat (go_big_quiet_step ((go_at_call 34; exact calls_family (sameMsg_yes _ _ x rr _ (MX.out _).mg (ML.out _) HKX.out (MX.out _).inw (HIN.out _)) HWB.out (Nat.le_refl _) HWall.out)))
               refine wpQuiet_nil ?_
               rintro _ ⟨nq, rfl⟩
               have F10 := F9.below (HWB.out nq)
               have k10 := next_below k9 (HWB.out nq)
               have hrd10 := HRDM.out nq
               clear r0 r1 r2 r3 r4 s0 s1 s2 s3 s4 F9 k9
               go_wp2
               go_roundw
               case rel => exact ⟨K + 1, by omega, by go_num, F10, hrd10, k10⟩
               case measure => simp [intOf]; omega
             · obtain rfl : K = N := by omega
               have hd : ms.drop K = [] := List.drop_of_length_le (by omega)
               rw [hd] at F
               go_wp2_with fail
               refine (take_out _ S g [] F 0 (.inr (by simp))).mono ?_
               rintro e w8 ⟨rfl, b8⟩
               have b9 := b8.alloc b8.size (.cells #[.int .i64 0, .int .i64 0, .int .i64 0, .slice none 0 0, .slice none 0 0] 54)
               have F9 := F.below b9
               have k9 := next_below hB b9
               clear F hB b8 b9 hrd
               simp only [mc, zeroMg]
               go_wp2_with fail
               refine (len_fix _ S g [] F9 0 rfl).mono ?_
               rintro e _ ⟨rfl, rfl⟩
               go_wp2_with fail
               refine (known29 _).mono ?_
               rintro e w10 ⟨rfl, b10⟩
               have k10 := next_below k9 b10
               go_wp2
               go_ret
               exact ⟨rfl, k10⟩)
end Go.Proofs.Ytcidmlpjobdakaa
