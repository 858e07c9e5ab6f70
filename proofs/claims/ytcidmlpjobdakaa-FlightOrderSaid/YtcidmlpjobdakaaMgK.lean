/- The walk of FlightFull. -/
import Derived.Test.YtcidmlpjobdakaaMgI
import Derived.Test.YtcidmlpjobdakaaPick
import Derived.Test.YtcidmlpjobdakaaMgF
import Derived.Deep.CutRange
namespace Go.Proofs.Ytcidmlpjobdakaa
open Go.RowKit

theorem len_fix (w : World) (S : Nat → Prop) (g : Nat) (ms : List Mg) (h : Fli w S g ms) (z : Int) (hz : (ms.length : Int) = z) : Calls Try.prog 30 #[.pointer (some ⟨g, 0, none⟩)] w fun r w' => r = .returned (.int .i64 z) ∧ w = w' :=
  (len_any w S g ms h).mono fun _ _ ⟨h1, h2⟩ => ⟨by rw [h1, hz], h2.symm⟩

theorem made_reads (w : World) (k : Nat) (P : Nat → Prop) (hP : P w.heap.size) : Reads (w.alloc (.cells (madeCells (Value.agg #[.int .i64 0, .int .i64 0, .int .i64 0, .slice none 0 0, .slice none 0 0]).cells (k * 5)) 54)) P 5 (some ⟨w.heap.size, 0, none⟩) k (mcs (List.replicate k zeroMg)) := by
  refine ⟨by rw [mcs_length, List.length_replicate], fun _ => ⟨w.heap.size, 0, rfl, hP, fun j u hu => ?_⟩⟩
  have hj : j < k * 5 := by
    have := (List.getElem?_eq_some_iff.1 hu).1
    rwa [mcs_length, List.length_replicate] at this
  rw [Nat.zero_add, World.cell?_alloc_at _ _ _ _ rfl]
  rw [show j = j / 5 * 5 + j % 5 from by omega, mcs_get (List.replicate k zeroMg) (j / 5) (j % 5) zeroMg (by rw [List.getElem?_replicate, if_pos (by omega)]) (by omega)] at hu
  have hz : (Value.agg #[.int .i64 0, .int .i64 0, .int .i64 0, .slice none 0 0, .slice none 0 0]).cells = zeros5.toArray := by kernel_rfl
  rw [hz]
  have hsz : zeros5.toArray.size = 5 := rfl
  have h5 : j % 5 = 0 ∨ j % 5 = 1 ∨ j % 5 = 2 ∨ j % 5 = 3 ∨ j % 5 = 4 := by omega
  unfold madeCells
  rw [Array.getElem?_map, Array.getElem?_range, if_pos hj, Option.map_some, hsz]
  rcases h5 with h | h | h | h | h <;> rw [h] at hu ⊢ <;> exact hu
theorem run_made (w : World) (k : Nat) (hk : k ≤ 1000000) : (Instr.makeSlice 48 (.int .i64 (k : Int)) (.int .i64 (k : Int))).run Try.prog w = .ok (.slice (some ⟨w.heap.size, 0, none⟩) k k) (w.alloc (.cells (madeCells (Value.agg #[.int .i64 0, .int .i64 0, .int .i64 0, .slice none 0 0, .slice none 0 0]).cells (k * 5)) 54)) := by
  obtain ⟨i, h1, h2, h3, h4⟩ := info_parts infoMsg
  have := run_makeSlice (P := Try.prog) w 48 54 i _ Try.underlying48 h1 h2 .i64 .i64 k k (by omega) (by omega) (by rw [h3]; simp; omega) (by rw [h4]; omega) (by omega)
  rw [h3] at this
  simpa using this

set_option maxHeartbeats 1600000 in
set_option maxRecDepth 100000 in
theorem full_walk (a b c : Int) (ha : -9223372036854775808 ≤ a ∧ a ≤ 9223372036854775807) (hb : -9223372036854775808 ≤ b ∧ b ≤ 9223372036854775807) (hc : -9223372036854775808 ≤ c ∧ c ≤ 9223372036854775807) (w : World) :
    Calls Try.prog 12 #[.int .i64 a, .int .i64 b, .int .i64 c] w fun r w' => r = .returned (.bool true) ∧ Below w.heap.size w w' := by
  obtain ⟨n, hn, hn2⟩ : ∃ n : Nat, a % 2000 = (n : Int) ∧ n < 2000 := ⟨(a % 2000).toNat, by omega, by omega⟩
  obtain ⟨p, hp, hp2⟩ : ∃ p : Nat, b % 100 = (p : Int) ∧ p < 100 := ⟨(b % 100).toNat, by omega, by omega⟩
  obtain ⟨out, ho, ho2⟩ : ∃ p : Nat, c % 50 = (p : Int) ∧ p < 50 := ⟨(c % 50).toNat, by omega, by omega⟩
  go_enter Try.func12, Try.ntmps12
  go_wp2_with fail
  refine (pick_pos a 2000 w (by decide) (by decide) ha.1 ha.2).mono ?_
  rintro e _ ⟨rfl, rfl⟩
  rw [hn]
  go_wp2_with fail
  refine (pick_pos b 100 w (by decide) (by decide) hb.1 hb.2).mono ?_
  rintro e _ ⟨rfl, rfl⟩
  rw [hp]
  clear hn hp
  go_wp2_with fail
  refine (new_any w).mono ?_
  rintro e w1 ⟨rfl, F1, b1⟩
  obtain ⟨g, hg⟩ : ∃ g, g = w.heap.size := ⟨_, rfl⟩
  rw [← hg] at F1 ⊢
  obtain ⟨S1, hS1⟩ : ∃ S : Nat → Prop, S = fun i => i = g := ⟨_, rfl⟩
  have hSg : ∀ i, S1 i → w.heap.size ≤ i := fun i hi => by rw [hS1] at hi; omega
  rw [← hS1] at F1
  clear hS1
  have HG := Lib.hid hg
  clear hg
  go_wp2
  go_loopw [8] (fun s wr => ∃ (sent : Nat) (ms : List Mg) (S : Nat → Prop), sent ≤ n ∧ s = .int .i64 sent ∧ ms.length = min sent 1024 ∧ Fli wr S g ms ∧ (∀ i, S i → w.heap.size ≤ i) ∧ Below w.heap.size w wr) (fun s _ => n - (intOf s).toNat)
  case atStart => exact ⟨0, [], S1, by omega, rfl, by simp, F1, hSg, b1⟩
  case round =>
    clear F1 hSg b1
    obtain ⟨sent, ms, S, hsn, rfl, hml, F, hSg, hB⟩ := hrel
    by_cases hlt : sent < n
    · have hlt1 : (sent : Int) < (n : Int) := by omega
      obtain ⟨k, hk⟩ : ∃ k, k = min (p + 1) (n - sent) := ⟨_, rfl⟩
      have hk1 : 1 ≤ k := by omega
      have hkn : sent + k ≤ n := by omega
      have hkp : k ≤ 100 := by omega
      have HK := Lib.hid hk
      clear hk
      go_upto_region 8 with fail
      go_cut [9] from 22 to 50 (fun s9 wx => s9 = .int .i64 (k : Int) ∧ wr = wx)
      case first =>
        go_wp2
        all_goals
          (go_meet
           case rel => exact ⟨by have := HK.out; congr 1; try omega, rfl⟩)
      case rest =>
        obtain ⟨rfl, rfl⟩ := hcut
        have hmk := run_made wr k (by omega)
        obtain ⟨wm, hwm⟩ : ∃ wm, wm = wr.alloc (.cells (madeCells (Value.agg #[.int .i64 0, .int .i64 0, .int .i64 0, .slice none 0 0, .slice none 0 0]).cells (k * 5)) 54) := ⟨_, rfl⟩
        rw [← hwm] at hmk
        have km : Below wr.heap.size wr wm := by rw [hwm]; exact (Below.refl _ _).alloc (Nat.le_refl _) _
        have hrd : Reads wm (fun i => i = wr.heap.size) 5 (some ⟨wr.heap.size, 0, none⟩) k (mcs (List.replicate k zeroMg)) := by rw [hwm]; exact made_reads wr k _ rfl
        have zm : wm.heap.size = wr.heap.size + 1 := by rw [hwm]; simp
        clear hwm
        have hdk : decide ((k : Int) < 0) = false := by simp
        go_wp2_with fail
        refine (send_any wm S g ms (F.below km) (by omega) (fun i => i = wr.heap.size) _ k k (List.replicate k zeroMg) hrd (fun m hm => by
          obtain rfl := List.eq_of_mem_replicate hm
          exact ⟨zeroMg_R _ _, zeroMg_fits⟩) (fun i hi => ⟨by omega, fun hs => by have := F.inw i hs; omega⟩) (Nat.le_refl _) (by omega) (fun e => by cases e)).mono ?_
        rintro e w5 ⟨ns, rfl, hkeys, F5, O5⟩
        have hnl : ns.length = min k (1024 - ms.length) := by
          have := congrArg List.length hkeys
          simpa using this
        obtain ⟨lost, hlost⟩ : ∃ lost, lost = k - min k (1024 - ms.length) := ⟨_, rfl⟩
        rw [show ((k : Int) - (min k (1024 - ms.length) : Nat)) = (lost : Int) from by omega]
        have HL := Lib.hid hlost
        have HML := Lib.hid hml
        have HNL := Lib.hid hnl
        have k5 : Below w.heap.size w w5 := (next_below hB km).trans (O5.below (fun i hi => hSg i hi) (by have := hB.size; have := km.size; omega))
        have hSg5 : ∀ i, Grow S wm w5 i → w.heap.size ≤ i := fun i hi => hi.elim (fun h => hSg i h) (fun h => by have := hB.size; have := km.size; omega)
        clear hlost hml hnl hkeys hmk hrd F hSg hB O5 km
        go_upto_region 10 with fail
        go_cut [42] from 22 to 50 (fun s42 wx => s42 = .bool false ∧ w5 = wx)
        case first =>
          go_wp2
          all_goals
            (go_meet
             case rel => exact ⟨congrArg Value.bool (by have := HL.out; have := HML.out; simp; omega), rfl⟩)
        case rest =>
          obtain ⟨rfl, rfl⟩ := hcut
          have hml5 : ((ms ++ ns).length : Int) = ((min (sent + k) 1024 : Nat) : Int) := by
            have := HML.out
            have := HNL.out
            rw [List.length_append]
            omega
          obtain ⟨len5, hlen5⟩ : ∃ x, x = min (sent + k) 1024 := ⟨_, rfl⟩
          rw [← hlen5] at hml5
          have HLEN := Lib.hid hlen5
          clear hlen5
          go_upto_region 13 with fail
          go_cut [50] from 22 to 50 (fun s50 wx => s50 = .bool false ∧ w5 = wx)
          case first =>
            go_wp2_with fail
            refine (len_fix w5 _ g _ F5 len5 hml5).mono ?_
            rintro e _ ⟨rfl, rfl⟩
            go_wp2
            all_goals
              (go_meet
               case rel => exact ⟨congrArg Value.bool (by have := HLEN.out; simp; try omega), rfl⟩)
          case rest =>
            obtain ⟨rfl, rfl⟩ := hcut
            have hfin : (ms ++ ns).length = min (sent + k) 1024 := by rw [← HLEN.out]; omega
            have HFIN := Lib.hid hfin
            clear hfin hml5
            go_wp2
            go_roundw
            case rel => exact ⟨sent + k, ms ++ ns, _, hkn, by go_num, HFIN.out, F5, hSg5, k5⟩
            case measure => simp [intOf]; omega
    · obtain rfl : sent = n := by omega
      go_wp2_with fail
      refine (len_fix wr S g ms F (min sent 1024 : Nat) (by rw [hml])).mono ?_
      rintro e _ ⟨rfl, rfl⟩
      go_wp2_with fail
      refine (pick_pos c 50 wr (by decide) (by decide) hc.1 hc.2).mono ?_
      rintro e _ ⟨rfl, rfl⟩
      rw [ho]
      obtain ⟨was, hwas⟩ : ∃ was, was = min sent 1024 := ⟨_, rfl⟩
      rw [← hwas] at hml ⊢
      have hwas2 : was ≤ 1024 := by omega
      clear ho hwas
      go_wp2
      go_loopw [12] (fun i wr2 => ∃ (k : Nat) (ms2 : List Mg), k ≤ out ∧ i = .int .i64 k ∧ ms2.length = was - k ∧ Fli wr2 S g ms2 ∧ Below w.heap.size w wr2) (fun i _ => out - (intOf i).toNat)
      case atStart => exact ⟨0, ms, by omega, rfl, hml, F, hB⟩
      case round =>
        clear hml F hB
        obtain ⟨k, ms2, hk, rfl, hml, F, hB⟩ := hrel
        by_cases hlt2 : k < out
        · have hk1 : (k : Int) < (out : Int) := by omega
          obtain ⟨L, hL⟩ : ∃ L, L = ms2.length := ⟨_, rfl⟩
          go_wp2_with fail
          refine (len_fix _ S g ms2 F L (by rw [hL])).mono ?_
          rintro e _ ⟨rfl, rfl⟩
          have HLL := Lib.hid hL
          have HML := Lib.hid hml
          clear hL hml
          have hw : IntKind.i64.wrap ((L : Int) - 1) = (L : Int) - 1 := IntWalk.i64_in _ (by have := HLL.out; have := HML.out; omega)
          go_wp2_with fail
          by_cases hL0 : L = 0
          · subst hL0
            refine (take_out _ S g ms2 F (((0 : Nat) : Int) - 1) (by omega)).mono ?_
            rintro e w8 ⟨rfl, b8⟩
            have F8 := F.below b8
            have k8 := next_below hB b8
            have hml8 : ms2.length = was - (k + 1) := by have := HLL.out; have := HML.out; omega
            have HM8 := Lib.hid hml8
            clear F hB b8 hml8
            go_wp2
            go_roundw
            case rel => exact ⟨k + 1, ms2, by omega, by go_num, HM8.out, F8, k8⟩
            case measure => simp [intOf]; omega
          · obtain ⟨M, rfl⟩ : ∃ M, L = M + 1 := ⟨L - 1, by omega⟩
            have HT := take_in _ S g ms2 F M (ms2[M]'(by have := HLL.out; omega)) (List.getElem?_eq_getElem _)
            rw [show (M : Int) = ((M + 1 : Nat) : Int) - 1 from by omega] at HT
            refine HT.mono ?_
            rintro e w8 ⟨m', rfl, _, _, _, F8, O8⟩
            have k8 : Below w.heap.size w w8 := hB.trans (O8.below hSg hB.size)
            have hml8 : (ms2.eraseIdx M).length = was - (k + 1) := by
              have := HLL.out
              have := HML.out
              rw [List.length_eraseIdx, if_pos (by omega)]
              omega
            have HM8 := Lib.hid hml8
            clear F hB O8 hml8 HT
            go_wp2
            go_roundw
            case rel => exact ⟨k + 1, ms2.eraseIdx M, by omega, by go_num, HM8.out, F8, k8⟩
            case measure => simp [intOf]; omega
        · obtain rfl : k = out := by omega
          obtain ⟨left, hleft⟩ : ∃ left, left = was - k := ⟨_, rfl⟩
          rw [← hleft] at hml
          have HLE := Lib.hid hleft
          clear hleft
          go_upto_region 21 with fail
          go_cut [13] from 51 to 68 (fun s13 wx => s13 = .int .i64 (left : Int) ∧ wr = wx)
          case first =>
            go_wp2
            all_goals
              (go_meet
               case rel => exact ⟨congrArg (Value.int .i64) (by have := HLE.out; omega), rfl⟩)
          case rest =>
            obtain ⟨rfl, rfl⟩ := hcut
            go_wp2_with fail
            refine (len_fix wr S g ms2 F left (by rw [hml])).mono ?_
            rintro e _ ⟨rfl, rfl⟩
            have hee : ((left : Int) == (left : Int)) = true := by simp
            have hl1024 : left ≤ 1024 := by have := HLE.out; omega
            have hmk : (Instr.makeSlice 48 (.int .i64 60) (.int .i64 60)).run Try.prog wr = _ := run_made wr 60 (by omega)
            obtain ⟨wm, hwm⟩ : ∃ wm, wm = wr.alloc (.cells (madeCells (Value.agg #[.int .i64 0, .int .i64 0, .int .i64 0, .slice none 0 0, .slice none 0 0]).cells (60 * 5)) 54) := ⟨_, rfl⟩
            rw [← hwm] at hmk
            have km : Below wr.heap.size wr wm := by rw [hwm]; exact (Below.refl _ _).alloc (Nat.le_refl _) _
            have hrd : Reads wm (fun i => i = wr.heap.size) 5 (some ⟨wr.heap.size, 0, none⟩) 60 (mcs (List.replicate 60 zeroMg)) := by rw [hwm]; exact made_reads wr 60 _ rfl
            have zm : wm.heap.size = wr.heap.size + 1 := by rw [hwm]; simp
            clear hwm
            go_wp2_with fail
            refine (send_any wm S g ms2 (F.below km) (by omega) (fun i => i = wr.heap.size) _ 60 60 (List.replicate 60 zeroMg) hrd (fun m hm => by
              obtain rfl := List.eq_of_mem_replicate hm
              exact ⟨zeroMg_R _ _, zeroMg_fits⟩) (fun i hi => ⟨by omega, fun hs => by have := F.inw i hs; omega⟩) (Nat.le_refl _) (by omega) (fun e => by cases e)).mono ?_
            rintro e w5 ⟨ns, rfl, _, _, O5⟩
            obtain ⟨lost, hlost⟩ : ∃ lost, lost = 60 - min 60 (1024 - ms2.length) := ⟨_, rfl⟩
            rw [show (((60 : Nat) : Int) - (min 60 (1024 - ms2.length) : Nat)) = (lost : Int) from by omega]
            rw [hml] at hlost
            have k5 : Below w.heap.size w w5 := (next_below hB km).trans (O5.below (fun i hi => hSg i hi) (by have := hB.size; have := km.size; omega))
            clear O5 F hB km hrd hmk hml
            by_cases hfit : left + 60 ≤ 1024
            · obtain rfl : lost = 0 := by omega
              clear hlost
              go_wp2_with fail
              all_goals (try (exfalso; omega))
              refine (known29 w5).mono ?_
              rintro e w6 ⟨rfl, b6⟩
              have k6 := next_below k5 b6
              go_wp2
              go_ret
              exact ⟨rfl, k6⟩
            · have hq : ((lost : Int) == (left : Int) + 60 - 1024) = true := by simp; omega
              have HQ := Lib.hid hlost
              clear hlost
              go_wp2_with fail
              all_goals (try (exfalso; omega))
              refine (known29 w5).mono ?_
              rintro e w6 ⟨rfl, b6⟩
              have k6 := next_below k5 b6
              go_wp2
              go_ret
              exact ⟨rfl, k6⟩
end Go.Proofs.Ytcidmlpjobdakaa
