/- The document's flight: Send, Take. -/
import Derived.Test.YtcidmlpjobdakaaFpA
import Derived.Deep.AppendLies
import Derived.Deep.CutRange
import Derived.Deep.RegionLaw
import Derived.Deep.RegionHeld3
namespace Go.Proofs.Ytcidmlpjobdakaa
set_option linter.unusedSimpArgs false
set_option linter.unusedVariables false
set_option linter.unnecessarySimpa false
open Go.RowKit

set_option maxHeartbeats 1600000 in
set_option maxRecDepth 100000 in
theorem refSend_any (w : World) (S : Nat → Prop) (g : Nat) (ms : List Mg) (h : Fli w S g ms) (hms : ms.length ≤ 1024) (P : Nat → Prop) (A : Option Addr) (n c : Nat) (l : List Mg)
    (hl : Reads w P 5 A n (mcs l)) (hmem : ∀ m ∈ l, MgR w P m ∧ Fits m) (hP : ∀ i, P i → i < w.heap.size ∧ ¬ S i) (hn : n ≤ 1099511627000) :
    Calls Try.prog 51 #[.pointer (some ⟨g, 0, none⟩), .slice A n c] w fun r w' => ∃ ns : List Mg, r = .returned (.int .i64 ((n : Int) - (min n (1024 - ms.length) : Nat))) ∧ ns.map mkey = (l.take (min n (1024 - ms.length))).map mkey ∧ Fli w' (Grow S w w') g (ms ++ ns) ∧ Off S w w' := by
  have hlen : l.length = n := by have := hl.1; rw [mcs_length] at this; omega
  obtain ⟨M, hM⟩ : ∃ M, M = ms.length := ⟨_, rfl⟩
  rw [← hM] at hms ⊢
  have HM := Lib.hid hM
  clear hM
  go_enter Try.func51, Try.ntmps51
  go_wp2
  go_loopw [5, 6] (fun s5 i wr => ∃ (k L : Nat) (ns : List Mg), k ≤ n ∧ i = .int .i64 k ∧ s5 = .int .i64 (L : Int) ∧ k = L + ns.length ∧ ns.length = min k (1024 - M) ∧ ns.map mkey = (l.take ns.length).map mkey ∧ Fli wr (Grow S w wr) g (ms ++ ns) ∧ Off S w wr) (fun _ i _ => n - (intOf i).toNat)
  case atStart => exact ⟨0, 0, [], by omega, rfl, rfl, rfl, by simp, by simp, by rw [List.append_nil]; exact h.more (fun i hi => .inl hi) (fun i hi => by rcases hi with hi | hi; exact h.inw i hi; exact hi.2), Off.refl _ _⟩
  case round =>
    obtain ⟨k, L, ns, hk, rfl, rfl, hkL, hnl, hkey, hF, hO⟩ := hrel
    have HK := Lib.hid hkey
    clear hkey
    obtain ⟨v, hcv, hov, hvb, hmm⟩ := hF.list
    obtain ⟨A', c', rfl, hc1, hc2, _⟩ := own_form hov
    obtain ⟨N, hN⟩ : ∃ N, N = (ms ++ ns).length := ⟨_, rfl⟩
    rw [← hN] at hcv hov hvb hmm hc1
    have hNM : N = M + ns.length := by rw [hN, List.length_append, ← HM.out]
    obtain ⟨R, hR⟩ : ∃ R, R = ns.length := ⟨_, rfl⟩
    rw [← hR] at hkL hnl hNM
    have HN := Lib.hid hN
    have HR := Lib.hid hR
    have HNM := Lib.hid hNM
    have HNL := Lib.hid hnl
    have HKL := Lib.hid hkL
    clear hN hR hNM hnl hkL
    by_cases hlt : k < n
    · have hk1 : (k : Int) < (n : Int) := by omega
      have hk0 : (0 : Int) ≤ (k : Int) := by omega
      by_cases hroom : N < 1024
      · have d1 : decide ((N : Int) < 1024) = true := by simp; omega
        have d1' : decide (N < 1024) = true := by simp; omega
        have hRk : R = k ∧ L = 0 := by have := HNM.out; have := HNL.out; have := HKL.out; omega
        have HRK := Lib.hid hRk
        clear hRk
        obtain ⟨m, hm⟩ : ∃ m, l[k]? = some m := ⟨_, List.getElem?_eq_getElem (by rw [hlen]; omega)⟩
        obtain ⟨hmR, hmf⟩ := hmem m (List.mem_of_getElem? hm)
        obtain ⟨b, off, rfl, hbb⟩ := Reads.at_ hl (by omega)
        have hkeep : ∀ i, P i → wr.heap[i]? = w.heap[i]? := fun i hi => hO.2 i (hP i hi).1 (hP i hi).2
        have cells : ∀ j u, (mc m)[j]? = some u → wr.cell? ⟨b, off + k * 5 + j, none⟩ = some u := fun j u hu => by
          have hj : j < 5 := by have := (List.getElem?_eq_some_iff.1 hu).1; rwa [mc_length] at this
          have := Reads.cell (hl.keep hkeep) rfl (j := k * 5 + j) (u := u) (by rw [mcs_get l k j m hm hj]; exact hu)
          rwa [← Nat.add_assoc] at this
        have y0 := cells 0 _ rfl
        have y1 := cells 1 _ rfl
        have y2 := cells 2 _ rfl
        have y3 := cells 3 _ rfl
        have y4 := cells 4 _ rfl
        rw [Nat.add_zero] at y0
        have hbw : b < wr.heap.size := Nat.lt_of_lt_of_le (hP b hbb).1 hO.size
        have HMM := Lib.hid hm
        have hT : ∀ W, Below wr.heap.size wr W → Calls Try.prog 50 #[.agg #[.int .i64 m.kind, .int .i64 m.from_, .int .i64 m.to_, .slice m.VA m.vn m.vc, .slice m.EA m.en m.ecap]] W fun r w' => ∃ m', r = .returned (.agg (mc m').toArray) ∧ mkey m' = mkey m ∧ MgR w' (fun i => wr.heap.size ≤ i ∧ i < w'.heap.size) m' ∧ Fits m' ∧ Below wr.heap.size wr w' := fun W hW => by
          refine (copyMsg_any m P W (hmR.keep fun i hi => (hW.block i (Nat.lt_of_lt_of_le (hP i hi).1 hO.size)).trans (hkeep i hi)) (fun i hi => Nat.lt_of_lt_of_le (hP i hi).1 (Nat.le_trans hO.size hW.size)) hmf).mono ?_
          rintro r w' ⟨m', rfl, h1, h2, h4⟩
          exact ⟨m', rfl, h1, h2.mg.more fun i hi => ⟨Nat.le_trans hW.size hi.1, hi.2⟩, h2.fits, next_below hW h4⟩
        have T := Lib.hid hT
        have hD : ∀ W, Below wr.heap.size wr W → W.cell? ⟨g, 0, none⟩ = some (.slice A' N c') ∧ W.frozen? ⟨g, 0, none⟩ = false ∧ W.ownsRow 0 54 5 (.slice A' N c') N (mcs (ms ++ ns)) := fun W hW => ⟨(hW.cell (p := ⟨g, 0, none⟩) hF.fresh.2.1).trans hcv, (froz_below hW ⟨g, 0, none⟩ hF.fresh.2.1).trans hF.fresh.2.2, own_below hov hW⟩
        have D := Lib.hid hD
        obtain ⟨q0, q1, _⟩ := hD wr (Below.refl _ _)
        have G0 : Below wr.heap.size wr wr := Below.refl _ _
        clear hT hD hov hmm hm cells hcv
        obtain ⟨i0, hi0, hz0, hs0, hb0⟩ : ∃ i, Try.prog.info? 54 = some i ∧ i.zero = some (.agg #[.int .i64 0, .int .i64 0, .int .i64 0, .slice none 0 0, .slice none 0 0]) ∧ i.size = 5 ∧ i.bytes = 72 := by
          have := infoMsg
          rcases e : Try.prog.info? 54 with _ | i
          · rw [e] at this; cases this
          · rw [e] at this
            simp only [Option.map_some, Option.some.injEq, Prod.mk.injEq] at this
            exact ⟨i, rfl, this.1, this.2.1, this.2.2⟩
        have hgb : some g ≠ (Value.slice A' N c').ownBlock := fun e => (hvb g e.symm).2 rfl
        have hgm : g < wr.heap.size := hF.fresh.2.1
        go_upto_region 6 with fail
        go_region_law (first
            | (refine step_append_lies _ rfl (.tmp 23) (.tmp 29) 48 rfl 0 54 i0 _ 5 72 rfl hi0 hz0 hs0 hb0 rfl (by decide) (.slice A' N c') N (mcs (ms ++ ns)) (by simp [Act.eval, Act.put]) ((D.out _ (hG'.alloc hG'.size _)).2.2) ⟨w'.heap.size, 0, none⟩ 1 1 (mc m') (by simp [Act.eval, Act.put]) rfl (World.news_of_block (fr := (0, 0)) (heap_alloc_new w' _)) (fun u hu => mcs_one [m'] u (by simpa [mcs] using hu)) (by decide) (by unfold maxLen; omega) (by omega) (Nat.zero_le _) _ rfl ?_
               intro b' cap' w3 hO3 hG3 hA3 hL3
               have q5 := (hG3.cell_far ⟨g, 0, none⟩ (Nat.lt_of_lt_of_le hgm hK2.size) hgb).trans (D.out _ hK2).1
               have q6 := (hG3.frozen_far ⟨g, 0, none⟩ (Nat.lt_of_lt_of_le hgm hK2.size) hgb).trans (D.out _ hK2).2.1)
            | (go_simp; go_at_call 50; with_reducible refine Calls.mono (T.out _ ?_) ?_; (first | assumption | exact Below.drew (by assumption)); rintro e w' ⟨m', rfl, hmk', hmR', hmf', hG'⟩; simp only [mc]; obtain ⟨q2, q3, q4⟩ := D.out w' hG'
               have hK2 := hG'.alloc hG'.size (.cells #[.int .i64 m'.kind, .int .i64 m'.from_, .int .i64 m'.to_, .slice m'.VA m'.vn m'.vc, .slice m'.EA m'.en m'.ecap] 54)
               have q7 := (D.out _ hK2).1))
        all_goals
          (obtain ⟨v2, hcv2, hov2, hvb2, hmm2⟩ := hF.list
           have e2 : v2 = .slice A' N c' := by
             have h7 := (q0 : wr.cell? ⟨g, 0, none⟩ = _)
             rw [hcv2] at h7
             exact Option.some.inj h7
           subst e2
           rw [HN.out] at hO3
           obtain ⟨hF4, hO4⟩ := push_fli hvb2 hmm2 hF.fresh hF.inw (by rw [hcv2]; rfl) hK2 (hmR'.keep (fun i hi => Below.heap_alloc w' _ i hi.2) |>.more fun i hi => ⟨hi.1, by simp; omega⟩) hmf' hO3 hG3 hA3 hL3
           rw [← HN.out] at hF4 hO4
           have hO5 := hO.trans hO4
           have hz4 := hO4.size
           have hF5 := hF4.more (fun i hi => Grow.trans hO.size hz4 i hi) (fun i hi => by
             rcases hi with hi | hi
             · exact Nat.lt_of_lt_of_le (h.inw i hi) (Nat.le_trans hO.size hz4)
             · exact hi.2)
           rw [List.append_assoc] at hF5
           have hl5 : (ns ++ [m']).length = k + 1 := by rw [List.length_append, ← HR.out, HRK.out.1]; rfl
           have hkey5 : (ns ++ [m']).map mkey = (l.take (ns ++ [m']).length).map mkey := by
             have hk2 := HK.out
             rw [← HR.out, HRK.out.1] at hk2
             rw [hl5, take_succ_get l k m HMM.out, List.map_append, List.map_append, hk2, List.map_singleton, List.map_singleton, hmk']
           have hm5 : (ns ++ [m']).length = min (k + 1) (1024 - M) := by rw [hl5]; have := HNM.out; have := HRK.out; omega
           have hj5 : k + 1 = 0 + (ns ++ [m']).length := by rw [hl5]; omega
           have hL5 : (L : Int) = ((0 : Nat) : Int) := by rw [HRK.out.2]
           have HF5 := Lib.hid hF5
           have HO5 := Lib.hid hO5
           have HK5 := Lib.hid hkey5
           have HM5 := Lib.hid hm5
           have HJ5 := Lib.hid hj5
           have HL5 := Lib.hid hL5
           clear hF5 hO5 hkey5 hF4 hO4 hcv2 hov2 hmm2 hvb2 q0 q1 hO3 hG3 hl5 hm5 hj5 hL5 y0 y1 y2 y3 y4
           go_wp2
           go_roundw
           case rel => exact ⟨k + 1, 0, ns ++ [m'], by omega, by go_num, by rw [HL5.out], HJ5.out, HM5.out, HK5.out, HF5.out, HO5.out⟩
           case measure => simp [intOf]; omega)
      · have d1 : decide ((N : Int) < 1024) = false := by simp; omega
        have d1' : decide (N < 1024) = false := by simp; omega
        have hrow : k + 1 = (L + 1) + ns.length := by have := HKL.out; have := HR.out; omega
        have hmin : ns.length = min (k + 1) (1024 - M) := by have := HNM.out; have := HNL.out; have := HR.out; omega
        have HROW := Lib.hid hrow
        have HMIN := Lib.hid hmin
        have HFF := Lib.hid hF
        have hL : L ≤ k := by have := HKL.out; omega
        clear hrow hmin hF hov hmm
        go_wp2
        go_roundw
        case rel => exact ⟨k + 1, L + 1, ns, by omega, by go_num, by go_num, HROW.out, HMIN.out, HK.out, HFF.out, hO⟩
        case measure => simp [intOf]; omega
    · obtain rfl : k = n := by omega
      have e1 : ((k : Int) - (min k (1024 - M) : Nat)) = (L : Int) := by have := HKL.out; have := HNL.out; omega
      have e2 : min k (1024 - M) = ns.length := by have := HNL.out; have := HR.out; omega
      have HE1 := Lib.hid e1
      have HE2 := Lib.hid e2
      have HFF := Lib.hid hF
      clear e1 e2 hF hov hmm
      go_wp2
      go_ret
      exact ⟨ns, by rw [HE1.out]; rfl, by rw [HE2.out]; exact HK.out, HFF.out, hO⟩
end Go.Proofs.Ytcidmlpjobdakaa
