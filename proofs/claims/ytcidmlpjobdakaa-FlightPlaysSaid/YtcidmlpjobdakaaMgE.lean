/- Send. -/
import Derived.Test.YtcidmlpjobdakaaMgD
import Derived.Deep.AppendLies
import Derived.Deep.CutRange
import Derived.Deep.RegionLaw
import Derived.Deep.RegionHeld3
namespace Go.Proofs.Ytcidmlpjobdakaa
set_option linter.unusedSimpArgs false
set_option linter.unusedVariables false
set_option linter.unnecessarySimpa false
open Go.RowKit

theorem push_fli {w w2 w3 : World} {S : Nat → Prop} {g : Nat} {ms : List Mg} {m : Mg} {v : Value} {b cap : Nat}
    (hv : ∀ i, v.ownBlock = some i → S i ∧ i ≠ g) (hmem : ∀ m ∈ ms, MgR w (fun i => S i ∧ i ≠ g ∧ some i ≠ v.ownBlock) m ∧ Fits m)
    (hg : S g ∧ g < w.heap.size ∧ w.frozen? ⟨g, 0, none⟩ = false) (hSw : ∀ i, S i → i < w.heap.size) (hc : (w.cell? ⟨g, 0, none⟩).isSome = true)
    (k2 : Below w.heap.size w w2) (hm : MgR w2 (fun i => w.heap.size ≤ i ∧ i < w2.heap.size) m) (hf : Fits m)
    (ho : w3.ownsRow 0 54 5 (.slice (some ⟨b, 0, none⟩) (ms.length + 1) cap) (ms.length + 1) (mcs ms ++ mc m)) (hgr : w2.grownBy w3 v.ownBlock) (hat : v.ownBlock = some b ∨ b = w2.heap.size) (hlt : b < w3.heap.size) :
    Fli (w3.setCell ⟨g, 0, none⟩ (.slice (some ⟨b, 0, none⟩) (ms.length + 1) cap)) (Grow S w (w3.setCell ⟨g, 0, none⟩ (.slice (some ⟨b, 0, none⟩) (ms.length + 1) cap))) g (ms ++ [m]) ∧
      Off S w (w3.setCell ⟨g, 0, none⟩ (.slice (some ⟨b, 0, none⟩) (ms.length + 1) cap)) := by
  have z2 := k2.size
  have z3 := hgr.size
  have zW : (w3.setCell ⟨g, 0, none⟩ (.slice (some ⟨b, 0, none⟩) (ms.length + 1) cap)).heap.size = w3.heap.size := by simp
  have hbg : b ≠ g := by
    rcases hat with h | h
    · exact (hv b h).2
    · have := hg.2.1; omega
  have hgv : some g ≠ v.ownBlock := fun e => (hv g e.symm).2 rfl
  have h3 : ∀ i, i < w.heap.size → some i ≠ v.ownBlock → w3.heap[i]? = w.heap[i]? := fun i hi hne => (hgr.block i (by omega) hne).trans (k2.block i hi)
  have hW : ∀ i, i ≠ g → (w3.setCell ⟨g, 0, none⟩ (.slice (some ⟨b, 0, none⟩) (ms.length + 1) cap)).heap[i]? = w3.heap[i]? := fun i hi => Below.heap_setCell _ _ _ _ (by exact hi)
  have hb : S b ∨ b = w2.heap.size := hat.imp (fun h => (hv b h).1) id
  have hnew : ∀ i, w.heap.size ≤ i → i < w2.heap.size → some i ≠ v.ownBlock ∧ i ≠ b ∧ i ≠ g := fun i h1 h2 => by
    refine ⟨fun e => by have := hSw i (hv i e.symm).1; omega, fun e => ?_, fun e => by have := hg.2.1; omega⟩
    rcases hb with h | h
    · have := hSw b h; omega
    · omega
  refine ⟨⟨⟨.slice (some ⟨b, 0, none⟩) (ms.length + 1) cap, ?_, ?_, ?_, ?_⟩, ⟨.inl hg.1, ?_, ?_⟩, ?_⟩, ⟨⟨?_, ?_, ?_, ?_, fun k hk => by omega⟩, ?_⟩⟩
  · refine cell_same ?_
    rw [World.cell?_of_block (w := w) (h3 g hg.2.1 hgv)]
    exact hc
  · rw [mcs_append, List.length_append, List.length_singleton, show mcs [m] = mc m from by simp [mcs]]
    exact ownsRow_setCell_other ho (a := ⟨g, 0, none⟩) (fun e => hbg (Option.some.inj e)) _
  · intro i hi
    obtain rfl : b = i := Option.some.inj hi
    refine ⟨?_, hbg⟩
    rcases hb with h | h
    · exact .inl h
    · exact .inr ⟨by omega, by rw [zW]; exact hlt⟩
  · intro x hx
    rcases List.mem_append.1 hx with hx | hx
    · obtain ⟨h5, h6⟩ := hmem x hx
      refine ⟨(h5.keep fun i hi => (hW i hi.2.1).trans (h3 i (hSw i hi.1) hi.2.2)).more fun i hi => ⟨.inl hi.1, hi.2.1, fun e => ?_⟩, h6⟩
      have e2 : i = b := Option.some.inj e
      rcases hat with h | h
      · exact hi.2.2 (by rw [e2, h])
      · have := hSw i hi.1; omega
    · obtain rfl := List.mem_singleton.1 hx
      refine ⟨(hm.keep fun i hi => (hW i (hnew i hi.1 hi.2).2.2).trans (hgr.block i hi.2 (hnew i hi.1 hi.2).1)).more fun i hi => ⟨.inr ⟨hi.1, by rw [zW]; omega⟩, (hnew i hi.1 hi.2).2.2, fun e => (hnew i hi.1 hi.2).2.1 (Option.some.inj e)⟩, hf⟩
  · rw [zW]; have := hg.2.1; omega
  · rw [World.frozen?_setCell]
    exact (World.frozen?_of_block (w := w) (h3 g hg.2.1 hgv)).trans hg.2.2
  · intro i hi
    rw [zW]
    rcases hi with hi | hi
    · have := hSw i hi; omega
    · rw [zW] at hi; exact hi.2
  · exact hgr.os.trans k2.os
  · exact hgr.tape.trans k2.tape
  · exact hgr.output.trans k2.output
  · rw [zW]; omega
  · intro i hi hs
    exact (hW i (fun e => hs (e ▸ hg.1))).trans (h3 i hi (fun e => hs (hv i e.symm).1))

set_option maxHeartbeats 1600000 in
set_option maxRecDepth 100000 in
theorem send_any (w : World) (S : Nat → Prop) (g : Nat) (ms : List Mg) (h : Fli w S g ms) (hms : ms.length ≤ 1024) (P : Nat → Prop) (A : Option Addr) (n c : Nat) (l : List Mg)
    (hl : Reads w P 5 A n (mcs l)) (hmem : ∀ m ∈ l, MgR w P m ∧ Fits m) (hP : ∀ i, P i → i < w.heap.size ∧ ¬ S i) (hn : n ≤ c) (hc : c ≤ 9223372036854775807) (hnil : A = none → c = 0) :
    Calls Try.prog 35 #[.pointer (some ⟨g, 0, none⟩), .slice A n c] w fun r w' => ∃ ns : List Mg, r = .returned (.int .i64 ((n : Int) - (min n (1024 - ms.length) : Nat))) ∧ ns.map mkey = (l.take (min n (1024 - ms.length))).map mkey ∧ Fli w' (Grow S w w') g (ms ++ ns) ∧ Off S w w' := by
  have hlen : l.length = n := by have := hl.1; rw [mcs_length] at this; omega
  obtain ⟨room, hroom⟩ : ∃ room, room = min n (1024 - ms.length) := ⟨_, rfl⟩
  rw [← hroom]
  obtain ⟨v0, hc0, ho0, _⟩ := h.list
  obtain ⟨A0, c0, rfl, _⟩ := own_form ho0
  have hmin : min (n : Int) ((1024 : Int) - (ms.length : Int)) = (room : Int) := by omega
  have hr1 : room ≤ n := by omega
  have hr2 : ms.length + room ≤ 1024 := by omega
  obtain ⟨M, hM⟩ : ∃ M, M = ms.length := ⟨_, rfl⟩
  rw [← hM] at hc0 hmin hr2
  have HM := Lib.hid hM
  have HR := Lib.hid hroom
  clear hroom hM ho0
  go_enter Try.func35, Try.ntmps35
  go_upto_region 1 with fail
  go_cut [5] from 8 to 16 (fun s5 wx => s5 = .int .i64 (room : Int) ∧ w = wx)
  case first =>
    go_wp2
    · go_meet
      case rel => exact ⟨by congr 1; omega, rfl⟩
    · go_meet
      case rel => exact ⟨by congr 1; omega, rfl⟩
  case rest =>
    obtain ⟨rfl, rfl⟩ := hcut
    clear hmin
    go_wp2
    go_loopw [21] (fun i wr => ∃ (k : Nat) (ns : List Mg), k ≤ room ∧ i = .int .i64 k ∧ ns.length = k ∧ ns.map mkey = (l.take k).map mkey ∧ Fli wr (Grow S w wr) g (ms ++ ns) ∧ Off S w wr) (fun i _ => room - (intOf i).toNat)
    case atStart => exact ⟨0, [], by omega, rfl, rfl, by simp, by rw [List.append_nil]; exact h.more (fun i hi => .inl hi) (fun i hi => by rcases hi with hi | hi; exact h.inw i hi; exact hi.2), Off.refl _ _⟩
    case round =>
      obtain ⟨k, ns, hk, rfl, hnl, hkey, hF, hO⟩ := hrel
      have HK := Lib.hid hkey
      clear hkey
      by_cases hlt : k < room
      · obtain ⟨m, hm⟩ : ∃ m, l[k]? = some m := ⟨_, List.getElem?_eq_getElem (by rw [hlen]; omega)⟩
        obtain ⟨hmR, hmf⟩ := hmem m (List.mem_of_getElem? hm)
        obtain ⟨b, off, rfl, hbb⟩ := Reads.at_ hl (by omega)
        have hkeep : ∀ i, P i → wr.heap[i]? = w.heap[i]? := fun i hi => hO.2 i (hP i hi).1 (hP i hi).2
        have cells : ∀ j u, (mc m)[j]? = some u → wr.cell? ⟨b, off + k * 5 + j, none⟩ = some u := fun j u hu => by
          have hj : j < 5 := by have := (List.getElem?_eq_some_iff.1 hu).1; rwa [mc_length] at this
          have := Reads.cell (hl.keep hkeep) rfl (j := k * 5 + j) (u := u) (by rw [mcs_get l k j m hm hj]; exact hu)
          rwa [← Nat.add_assoc] at this
        have y0 := cells 0 _ rfl
        have y1 := cells 1 _ rfl
        have y2 := cells 2 _ rfl
        have y3 := cells 3 _ rfl
        have y4 := cells 4 _ rfl
        rw [Nat.add_zero] at y0
        have hk0 : (0 : Int) ≤ (k : Int) := by omega
        have hk1 : (k : Int) < (room : Int) := by omega
        obtain ⟨wm, hwm⟩ : ∃ wm, wm = wr.alloc (.cells #[.int .i64 m.kind, .int .i64 m.from_, .int .i64 m.to_, .slice m.VA m.vn m.vc, .slice m.EA m.en m.ecap] 54) := ⟨_, rfl⟩
        have HMM := Lib.hid hm
        clear hm cells
        go_upto_region 5 with fail
        rw [← hwm]
        obtain ⟨v, hcv, hov, hvb, hmm⟩ := hF.list
        obtain ⟨A', c', rfl, hc1, hc2, _⟩ := own_form hov
        obtain ⟨N, hN⟩ : ∃ N, N = (ms ++ ns).length := ⟨_, rfl⟩
        rw [← hN] at hcv hov hvb hmm hc1
        have hNl : N < 1024 := by have := HM.out; rw [hN, List.length_append]; omega
        have km : Below wr.heap.size wr wm := by rw [hwm]; exact (Below.refl _ _).alloc (Nat.le_refl _) _
        have zm : wm.heap.size = wr.heap.size + 1 := by rw [hwm]; simp
        have bx : ∀ j u, (mc m)[j]? = some u → wm.cell? ⟨wr.heap.size, j, none⟩ = some u := by
          intro j u hu
          rw [hwm, World.cell?_alloc_at _ _ _ _ rfl]
          simpa [mc] using hu
        have hT : ∀ W, Below wm.heap.size wm W → Calls Try.prog 52 #[.agg #[.int .i64 m.kind, .int .i64 m.from_, .int .i64 m.to_, .slice m.VA m.vn m.vc, .slice m.EA m.en m.ecap]] W fun r w' => ∃ m', r = .returned (.agg (mc m').toArray) ∧ mkey m' = mkey m ∧ MgR w' (fun i => wr.heap.size ≤ i ∧ i < w'.heap.size) m' ∧ Fits m' ∧ Below wm.heap.size wm w' := fun W hW => by
          have hb1 : Below wr.heap.size wr W := next_below km hW
          refine (copied_any m P W (hmR.keep fun i hi => (hb1.block i (Nat.lt_of_lt_of_le (hP i hi).1 hO.size)).trans (hkeep i hi)) (fun i hi => Nat.lt_of_lt_of_le (hP i hi).1 (Nat.le_trans hO.size hb1.size)) hmf).mono ?_
          rintro r w' ⟨m', rfl, h1, h2, h3, h4⟩
          exact ⟨m', rfl, h1, h2.more fun i hi => ⟨Nat.le_trans hb1.size hi.1, hi.2⟩, h3, next_below hW h4⟩
        have T := Lib.hid hT
        have hD : ∀ W, Below wm.heap.size wm W → W.cell? ⟨g, 0, none⟩ = some (.slice A' N c') ∧ W.frozen? ⟨g, 0, none⟩ = false ∧ W.ownsRow 0 54 5 (.slice A' N c') N (mcs (ms ++ ns)) := fun W hW => by
          have hb1 : Below wr.heap.size wr W := next_below km hW
          exact ⟨(hb1.cell (p := ⟨g, 0, none⟩) hF.fresh.2.1).trans hcv, (froz_below hb1 ⟨g, 0, none⟩ hF.fresh.2.1).trans hF.fresh.2.2, own_below hov hb1⟩
        have D := Lib.hid hD
        have BX := Lib.hid bx
        obtain ⟨q0, q1, _⟩ := hD wm (Below.refl _ _)
        have x0 := bx 0 _ rfl
        have x1 := bx 1 _ rfl
        have x2 := bx 2 _ rfl
        have x3 := bx 3 _ rfl
        have x4 := bx 4 _ rfl
        have G0 : Below wm.heap.size wm wm := Below.refl _ _
        have HWM := Lib.hid hwm
        have HN := Lib.hid hN
        clear hT hD bx hov hmm y0 y1 y2 y3 y4 hcv hwm hN
        obtain ⟨i0, hi0, hz0, hs0, hb0⟩ : ∃ i, Try.prog.info? 54 = some i ∧ i.zero = some (.agg #[.int .i64 0, .int .i64 0, .int .i64 0, .slice none 0 0, .slice none 0 0]) ∧ i.size = 5 ∧ i.bytes = 72 := by
          have := infoMsg
          rcases e : Try.prog.info? 54 with _ | i
          · rw [e] at this; cases this
          · rw [e] at this
            simp only [Option.map_some, Option.some.injEq, Prod.mk.injEq] at this
            exact ⟨i, rfl, this.1, this.2.1, this.2.2⟩
        have hgb : some g ≠ (Value.slice A' N c').ownBlock := fun e => (hvb g e.symm).2 rfl
        have hgm : g < wm.heap.size := by rw [zm]; have := hF.fresh.2.1; omega
        go_region_law (first
            | (refine step_append_lies _ rfl (.tmp 29) (.tmp 32) 48 rfl 0 54 i0 _ 5 72 rfl hi0 hz0 hs0 hb0 rfl (by decide) (.slice A' N c') N (mcs (ms ++ ns)) (by simp [Act.eval, Act.put]) ((D.out _ (hG'.alloc hG'.size _)).2.2) ⟨w'.heap.size, 0, none⟩ 1 1 (mc m') (by simp [Act.eval, Act.put]) rfl (World.news_of_block (fr := (0, 0)) (heap_alloc_new w' _)) (fun u hu => mcs_one [m'] u (by simpa [mcs] using hu)) (by decide) (by unfold maxLen; omega) (by omega) (Nat.zero_le _) _ rfl ?_
               intro b' cap' w3 hO3 hG3 hA3 hL3
               have q5 := (hG3.cell_far ⟨g, 0, none⟩ (Nat.lt_of_lt_of_le hgm hK2.size) hgb).trans (D.out _ hK2).1
               have q6 := (hG3.frozen_far ⟨g, 0, none⟩ (Nat.lt_of_lt_of_le hgm hK2.size) hgb).trans (D.out _ hK2).2.1)
            | (go_simp; go_at_call 52; with_reducible refine Calls.mono (T.out _ ?_) ?_; (first | assumption | exact Below.drew (by assumption)); rintro e w' ⟨m', rfl, hmk', hmR', hmf', hG'⟩; simp only [mc]; obtain ⟨q2, q3, q4⟩ := D.out w' hG'
               have hK2 := hG'.alloc hG'.size (.cells #[.int .i64 m'.kind, .int .i64 m'.from_, .int .i64 m'.to_, .slice m'.VA m'.vn m'.vc, .slice m'.EA m'.en m'.ecap] 54)
               have q7 := (D.out _ hK2).1))
        all_goals
          (obtain ⟨v2, hcv2, hov2, hvb2, hmm2⟩ := hF.list
           have e2 : v2 = .slice A' N c' := by
             have h7 := (km.cell (p := ⟨g, 0, none⟩) hF.fresh.2.1).symm.trans (q0 : wm.cell? ⟨g, 0, none⟩ = _)
             rw [hcv2] at h7
             exact Option.some.inj h7
           subst e2
           rw [HN.out] at hO3
           obtain ⟨hF4, hO4⟩ := push_fli hvb2 hmm2 hF.fresh hF.inw (by rw [hcv2]; rfl) (next_below km hK2) (hmR'.keep (fun i hi => Below.heap_alloc w' _ i hi.2) |>.more fun i hi => ⟨hi.1, by simp; omega⟩) hmf' hO3 hG3 hA3 hL3
           rw [← HN.out] at hF4 hO4
           have hO5 := hO.trans hO4
           have hz4 := hO4.size
           have hF5 := hF4.more (fun i hi => Grow.trans hO.size hz4 i hi) (fun i hi => by
             rcases hi with hi | hi
             · exact Nat.lt_of_lt_of_le (h.inw i hi) (Nat.le_trans hO.size hz4)
             · exact hi.2)
           rw [List.append_assoc] at hF5
           have hkey5 : (ns ++ [m']).map mkey = (l.take (k + 1)).map mkey := by
             rw [take_succ_get l k m HMM.out, List.map_append, List.map_append, HK.out, List.map_singleton, List.map_singleton, hmk']
           have HF5 := Lib.hid hF5
           have HO5 := Lib.hid hO5
           have HK5 := Lib.hid hkey5
           clear hF5 hO5 hkey5 hF4 hO4 hcv2 hov2 hmm2 hvb2 q0 q1 hO3 hG3
           go_wp2
           go_roundw
           case rel => exact ⟨k + 1, ns ++ [m'], by omega, by go_num, by simp [hnl], HK5.out, HF5.out, HO5.out⟩
           case measure => simp [intOf]; omega)
      · obtain rfl : k = room := by omega
        go_wp2
        go_ret
        exact ⟨ns, rfl, HK.out, hF, hO⟩
end Go.Proofs.Ytcidmlpjobdakaa
