/- The walk of FlightBetween. -/
import Derived.Test.YtcidmlpjobdakaaMgI
namespace Go.Proofs.Ytcidmlpjobdakaa
open Go.RowKit

/-- A list of one act that has messages alone. -/
theorem RA.one {w : World} {A : Option Addr} {n c : Nat} {l : List Mg} (h : RM w (· < w.heap.size) A n l) (hn : n ≤ c) (hc : c ≤ 9223372036854775807) (hnil : A = none → c = 0) :
    RA (w.alloc (.cells #[.int .i64 0, .int .i64 0, .int .i64 0, .slice A n c] 50)) (fun i => i < w.heap.size + 1) (some ⟨w.heap.size, 0, none⟩) 1 [⟨0, 0, 0, A, n, c, l⟩] := by
  refine ⟨⟨rfl, fun _ => ⟨w.heap.size, 0, rfl, by omega, fun j u hu => ?_⟩⟩, fun a ha => ?_⟩
  · rw [Nat.zero_add, World.cell?_alloc_at _ _ _ _ rfl]
    simpa [av] using hu
  · obtain rfl := List.mem_singleton.1 ha
    exact ⟨(h.keep fun i hi => Below.heap_alloc _ _ _ hi).more fun i hi => Nat.lt_succ_of_lt hi, hn, hc, hnil⟩
/-- The first place from k on. -/
def AtFrom (l : List Mg) (k : Nat) (f t z : Int) : Prop := (z = -1 ∧ ∀ (j : Nat) (r : Mg), k ≤ j → l[j]? = some r → ¬ goes f t r) ∨ ∃ (j : Nat) (r : Mg), z = (j : Int) ∧ k ≤ j ∧ l[j]? = some r ∧ goes f t r ∧ ∀ (i : Nat) (s : Mg), k ≤ i → i < j → l[i]? = some s → ¬ goes f t s
theorem AtFrom.end_ (l : List Mg) (f t : Int) : AtFrom l l.length f t (-1) := .inl ⟨rfl, fun j r hj hr => by have := (List.getElem?_eq_some_iff.1 hr).1; omega⟩
theorem AtFrom.first {l : List Mg} {f t z : Int} (h : AtFrom l 0 f t z) : FirstAt l f t z := by
  rcases h with ⟨h1, h2⟩ | ⟨j, r, h1, _, h2, h3, h4⟩
  · refine .inl ⟨h1, fun m hm => ?_⟩
    obtain ⟨j, hj, hjm⟩ := List.getElem_of_mem hm
    exact h2 j m (Nat.zero_le _) (by rw [List.getElem?_eq_getElem hj, hjm])
  · exact .inr ⟨j, r, h1, h2, h3, fun i s hi hs => h4 i s (Nat.zero_le _) hi hs⟩
theorem AtFrom.hit {l : List Mg} {k : Nat} {f t : Int} {m : Mg} (hm : l[k]? = some m) (hg : goes f t m) : AtFrom l k f t (k : Int) :=
  .inr ⟨k, m, rfl, Nat.le_refl _, hm, hg, fun i s h1 h2 => by omega⟩
theorem AtFrom.miss {l : List Mg} {k : Nat} {f t z : Int} {m : Mg} (h : AtFrom l (k + 1) f t z) (hm : l[k]? = some m) (hg : ¬ goes f t m) : AtFrom l k f t z := by
  rcases h with ⟨h1, h2⟩ | ⟨j, r, h1, h0, h2, h3, h4⟩
  · refine .inl ⟨h1, fun j r hj hr => ?_⟩
    by_cases hjk : j = k
    · subst hjk; rw [hm] at hr; cases hr; exact hg
    · exact h2 j r (by omega) hr
  · refine .inr ⟨j, r, h1, by omega, h2, h3, fun i s hi hij hs => ?_⟩
    by_cases hik : i = k
    · subst hik; rw [hm] at hs; cases hs; exact hg
    · exact h4 i s (by omega) hij hs

set_option maxHeartbeats 1600000 in
set_option maxRecDepth 100000 in
theorem between_walk (A : Option Addr) (n c : Nat) (l : List Mg) (f t at_ : Int) (w : World) (hl : RM w (· < w.heap.size) A n l) (hn : n ≤ c) (hc : c ≤ 9223372036854775807) (hnil : A = none → c = 0) :
    Calls Try.prog 11 #[.slice A n c, .int .i64 f, .int .i64 t, .int .i64 at_] w fun r w' => r = .returned (.bool true) ∧ Below w.heap.size w w' := by
  obtain ⟨w1, hw1⟩ : ∃ w1, w1 = w.alloc (.cells #[.int .i64 0, .int .i64 0, .int .i64 0, .slice A n c] 50) := ⟨_, rfl⟩
  have k1 : Below w.heap.size w w1 := by rw [hw1]; exact (Below.refl _ _).alloc (Nat.le_refl _) _
  have hra := RA.one hl hn hc hnil
  rw [← hw1] at hra
  go_enter Try.func11, Try.ntmps11
  go_wp2_with fail
  rw [← hw1]
  clear hw1
  refine (long29_any _ _ 1 1 _ w1 hra (by omega)).mono ?_
  rintro e w2 ⟨β, rfl, hβ, q, rfl⟩
  have k2 := below_drewN k1 q
  generalize w1.drewN q = w2 at *
  clear hra k1
  cases β with
  | true =>
    clear hβ
    go_wp2_with fail
    refine (known29 w2).mono ?_
    rintro e w3 ⟨rfl, b3⟩
    have k3 := next_below k2 b3
    go_wp2
    go_ret
    exact ⟨rfl, k3⟩
  | false =>
    obtain ⟨hn40, hshort⟩ := (hβ rfl).2 _ (List.mem_singleton.2 rfl)
    simp only at hn40 hshort
    have HSH := Lib.hid hshort
    clear hβ hshort
    have hlen := hl.len
    have HL := Lib.hid hl
    clear hl
    go_wp2_with fail
    refine (new_any w2).mono ?_
    rintro e w3 ⟨rfl, F3, b3⟩
    obtain ⟨g, hg⟩ : ∃ g, g = w2.heap.size := ⟨_, rfl⟩
    have hgB : w.heap.size ≤ g := by have := k2.size; omega
    rw [← hg] at F3 ⊢
    have k3 := next_below k2 b3
    clear hg b3 k2
    go_wp2_with fail
    refine (send_any w3 (fun i => i = g) g [] F3 (by simp) (fun i => i < w.heap.size) A n c l (HL.out.1.keep fun i hi => k3.block i hi) (fun m hm => ⟨(HL.out.2 m hm).keep fun i hi => k3.block i hi, (HSH.out m hm).fits⟩) (fun i hi => ⟨by have := k3.size; omega, by omega⟩) hn hc hnil).mono ?_
    rintro e w4 ⟨ns, rfl, hkeys, F4, O4⟩
    rw [List.length_nil, show min n (1024 - 0) = n from by omega, List.take_of_length_le (by omega)] at hkeys
    rw [List.nil_append] at F4
    obtain ⟨S, hS⟩ : ∃ S, S = Grow (fun i => i = g) w3 w4 := ⟨_, rfl⟩
    rw [← hS] at F4
    have hSg : ∀ i, S i → g ≤ i := by
      intro i hi
      rw [hS] at hi
      have := F3.fresh.2.1
      rcases hi with hi | hi <;> omega
    have k4 : Below w.heap.size w w4 := k3.trans (O4.below (fun i hi => by omega) k3.size)
    have hnl : ns.length = n := by rw [← hlen]; simpa using congrArg List.length hkeys
    have HK := Lib.hid hkeys
    have HNL := Lib.hid hnl
    clear hS F3 O4 k3 hkeys
    go_wp2
    go_loopw [10, 11] (fun z i wr => ∃ (k : Nat) (z' : Int), k ≤ n ∧ i = .int .i64 ((k : Int) - 1) ∧ z = .int .i64 z' ∧ AtFrom l k f t z' ∧ w4 = wr) (fun _ i _ => (intOf i + 1).toNat)
    case atStart => exact ⟨n, -1, Nat.le_refl _, by first | go_num | (congr 1; omega), rfl, hlen ▸ AtFrom.end_ l f t, rfl⟩
    case round =>
      obtain ⟨k, z, hk, rfl, rfl, hat, rfl⟩ := hrel
      have HAT := Lib.hid hat
      clear hat
      have hln : RM w4 (· < w.heap.size) A n l := HL.out.keep fun i hi => k4.block i hi
      by_cases hk0 : k = 0
      rotate_left
      · obtain ⟨K, rfl⟩ : ∃ K, k = K + 1 := ⟨k - 1, by omega⟩
        rw [show ((K + 1 : Nat) : Int) - 1 = (K : Int) from by omega]
        obtain ⟨b, off, m, rfl, _, hm, mm, hc2⟩ := hln.cell (k := K) (by omega)
        have y1 := hc2 1 _ rfl
        have y2 := hc2 2 _ rfl
        have hk1 : (K : Int) < (n : Int) := by omega
        have hk2 : (0 : Int) ≤ (K : Int) := by omega
        have hw1 : IntKind.i64.wrap ((K : Int) - 1) = (K : Int) - 1 := IntWalk.i64_in _ (by omega)
        have HM := Lib.hid hm
        clear hm hc2 mm hln
        by_cases h5 : m.from_ = f
        · by_cases h6 : m.to_ = t
          · have d1 : (m.from_ == f) = true := by simp [h5]
            have d2 : (m.to_ == t) = true := by simp [h6]
            have HG := Lib.hid (show goes f t m from ⟨h5, h6⟩)
            clear h5 h6
            go_wp2
            go_roundw
            case rel => exact ⟨K, (K : Int), by omega, by first | rfl | go_num, rfl, AtFrom.hit HM.out HG.out, by first | rfl | trivial⟩
            case measure => first | (simp [intOf]; done) | (simp [intOf]; omega)
          · have d1 : (m.from_ == f) = true := by simp [h5]
            have d2 : (m.to_ == t) = false := by simp [h6]
            have HG := Lib.hid (show ¬ goes f t m from fun h => h6 h.2)
            clear h5 h6
            go_wp2
            go_roundw
            case rel => exact ⟨K, z, by omega, by first | rfl | go_num, rfl, AtFrom.miss HAT.out HM.out HG.out, by first | rfl | trivial⟩
            case measure => first | (simp [intOf]; done) | (simp [intOf]; omega)
        · have d1 : (m.from_ == f) = false := by simp [h5]
          have HG := Lib.hid (show ¬ goes f t m from fun h => h5 h.1)
          clear h5
          go_wp2
          go_roundw
          case rel => exact ⟨K, z, by omega, by first | rfl | go_num, rfl, AtFrom.miss HAT.out HM.out HG.out, by first | rfl | trivial⟩
          case measure => first | (simp [intOf]; done) | (simp [intOf]; omega)
      · subst hk0
        rw [show ((0 : Nat) : Int) - 1 = -1 from rfl]
        have hz := HAT.out.first
        have HZ := Lib.hid hz
        clear hz HAT hln
        by_cases hin : 0 ≤ at_ ∧ at_ < (n : Int)
        · obtain ⟨K, rfl⟩ : ∃ K : Nat, at_ = (K : Int) := ⟨at_.toNat, by omega⟩
          have hKn : K < n := by omega
          obtain ⟨m, hm⟩ : ∃ m, ns[K]? = some m := ⟨_, List.getElem?_eq_getElem (by omega)⟩
          go_wp2_with fail
          refine (look_in w4 S g ns F4 K m hm).mono ?_
          rintro e w5 ⟨x, rfl, hkx, hmx, hfx, b5⟩
          have hx := Has.box (S := S) hmx (fun i hi => F4.inw i hi) b5.size
          obtain ⟨w6, hw6⟩ : ∃ w6, w6 = w5.alloc (.cells (mc x).toArray 54) := ⟨_, rfl⟩
          rw [← hw6] at hx
          have b6 : Below w4.heap.size w4 w6 := by rw [hw6]; exact b5.alloc b5.size _
          obtain ⟨px, hpx⟩ : ∃ px, px = w5.heap.size := ⟨_, rfl⟩
          rw [← hpx] at hx
          have F6 := F4.below b6
          have k6 := next_below k4 b6
          have HW6 := Lib.hid hw6
          have HPX := Lib.hid hpx
          clear b5 hw6 hpx hmx
          simp only [mc]
          go_upto_region 14 with fail
          simp only [mc] at HW6
          rw [← HW6.out, ← HPX.out]
          clear HW6 HPX
          obtain ⟨ι, W, hne, hW0, hWB, hWall⟩ := family w6.heap.size w6
          obtain ⟨b, off, lm, rfl, _, hlm, mm, hc2⟩ := (HL.out.keep fun i hi => k6.block i hi).cell (k := K) hKn
          have hkey : mkey x = mkey lm := by
            rw [hkx]
            have := congrArg (fun q => q[K]?) HK.out
            simpa [hm, hlm] using this
          have cx : ∀ m, (W m).cell? ⟨px, 0, none⟩ = some (.int .i64 x.kind) ∧ (W m).cell? ⟨px, 1, none⟩ = some (.int .i64 x.from_) ∧ (W m).cell? ⟨px, 2, none⟩ = some (.int .i64 x.to_) ∧ (W m).cell? ⟨px, 3, none⟩ = some (.slice x.VA x.vn x.vc) ∧ (W m).cell? ⟨px, 4, none⟩ = some (.slice x.EA x.en x.ecap) := fun m => (hx.fre (Off.of (hWB m))).five
          have cl : ∀ j u, (mc lm)[j]? = some u → ∀ m, (W m).cell? ⟨b, off + K * 5 + j, none⟩ = some u := fun j u hu m =>
            ((hWB m).cell (p := ⟨b, off + K * 5 + j, none⟩) (World.block_lt_of_cell? _ _ (hc2 j u hu))).trans (hc2 j u hu)
          have r0 := fun m => (cx m).1
          have r1 := fun m => (cx m).2.1
          have r2 := fun m => (cx m).2.2.1
          have r3 := fun m => (cx m).2.2.2.1
          have r4 := fun m => (cx m).2.2.2.2
          have s0 := cl 0 _ rfl
          have s1 := cl 1 _ rfl
          have s2 := cl 2 _ rfl
          have s3 := cl 3 _ rfl
          have s4 := cl 4 _ rfl
          rw [Nat.add_zero] at s0
          have FF := Lib.hid fun m => F6.below (hWB m)
          have MX := Lib.hid fun m => (hx.fre (Off.of (hWB m)))
          have ML := Lib.hid fun m => mm.keep fun i (hi : i < w.heap.size) => (hWB m).block i (Nat.lt_of_lt_of_le hi k6.size)
          have HIN := Lib.hid fun m => fun i (hi : i < w.heap.size) => Nat.lt_of_lt_of_le hi (Nat.le_trans k6.size (hWB m).size)
          have HWB := Lib.hid hWB
          have HWall := Lib.hid hWall
          have HKX := Lib.hid hkey
          have hk1 : (K : Int) < (n : Int) := by omega
          have hk0 : (0 : Int) ≤ (K : Int) := by omega
          have hzz : (z != z) = false := by simp
          clear hWB hWall hc2 cx cl hm hkx hkey hx mm hlm F4 F6 hnl hin
          refine wp_region_family (by kernel_rfl) (by kernel_rfl) hW0 ?_
          repeat (go_big_quiet_step (first
            | (go_at_call 37; exact calls_family (between_fix (W _) S g ns (FF.out _) f t z l HK.out HZ.out) HWB.out (Nat.le_refl _) HWall.out)
            | (go_at_call 34; exact calls_family (sameMsg_yes _ _ x lm _ (MX.out _).mg (ML.out _) HKX.out (MX.out _).inw (HIN.out _)) HWB.out (Nat.le_refl _) HWall.out)))
          refine wpQuiet_nil ?_
          rintro _ ⟨nq, rfl⟩
          have F7 := FF.out nq
          have k7 := next_below k6 (HWB.out nq)
          clear r0 r1 r2 r3 r4 s0 s1 s2 s3 s4
          go_wp2_with fail
          refine (len_any _ S g ns F7).mono ?_
          rintro e _ ⟨rfl, rfl⟩
          rw [HNL.out]
          have hee : ((n : Int) == (n : Int)) = true := by simp
          go_wp2_with fail
          refine (known29 _).mono ?_
          rintro e w8 ⟨rfl, b8⟩
          have k8 := next_below k7 b8
          go_wp2
          go_ret
          exact ⟨rfl, k8⟩
        · have hout : at_ < 0 ∨ (n : Int) ≤ at_ := by omega
          have hout2 : at_ < 0 ∨ (ns.length : Int) ≤ at_ := by omega
          go_wp2_with fail
          refine (look_out w4 S g ns F4 at_ hout2).mono ?_
          rintro e w5 ⟨rfl, b5⟩
          obtain ⟨w6, hw6⟩ : ∃ w6, w6 = w5.alloc (.cells #[.int .i64 0, .int .i64 0, .int .i64 0, .slice none 0 0, .slice none 0 0] 54) := ⟨_, rfl⟩
          have hx : Has w6 (fun i => i = w5.heap.size) w5.heap.size zeroMg := by
            rw [hw6]
            exact (Has.new (m := zeroMg) (zeroMg_R w5 (fun _ => False)) (fun i hi => hi.elim)).more (fun i hi => hi.elim False.elim id) (fun i hi => by simp; omega)
          have b6 : Below w4.heap.size w4 w6 := by rw [hw6]; exact b5.alloc b5.size _
          obtain ⟨px, hpx⟩ : ∃ px, px = w5.heap.size := ⟨_, rfl⟩
          rw [← hpx] at hx
          have F6 := F4.below b6
          have k6 := next_below k4 b6
          have HW6 := Lib.hid hw6
          have HPX := Lib.hid hpx
          clear b5 hw6 hpx
          simp only [mc, zeroMg]
          go_upto_region 14 with fail
          rw [← HW6.out, ← HPX.out]
          clear HW6 HPX
          obtain ⟨ι, W, hne, hW0, hWB, hWall⟩ := family w6.heap.size w6
          have cx : ∀ m, (W m).cell? ⟨px, 0, none⟩ = some (.int .i64 0) ∧ (W m).cell? ⟨px, 1, none⟩ = some (.int .i64 0) ∧ (W m).cell? ⟨px, 2, none⟩ = some (.int .i64 0) ∧ (W m).cell? ⟨px, 3, none⟩ = some (.slice none 0 0) ∧ (W m).cell? ⟨px, 4, none⟩ = some (.slice none 0 0) := fun m => (hx.below (hWB m)).five
          have r0 := fun m => (cx m).1
          have r1 := fun m => (cx m).2.1
          have r2 := fun m => (cx m).2.2.1
          have r3 := fun m => (cx m).2.2.2.1
          have r4 := fun m => (cx m).2.2.2.2
          have FF := Lib.hid fun m => F6.below (hWB m)
          have HWB := Lib.hid hWB
          have HWall := Lib.hid hWall
          have hzz : (z != z) = false := by simp
          have hT : ∀ m : ι, Calls Try.prog 34 #[.agg #[.int .i64 0, .int .i64 0, .int .i64 0, .slice none 0 0, .slice none 0 0], .agg #[.int .i64 0, .int .i64 0, .int .i64 0, .slice none 0 0, .slice none 0 0]] (W m) fun r w' => r = .returned (.bool true) ∧ Below (W m).heap.size (W m) w' := fun m => sameMsg_yes (fun _ => False) (fun _ => False) zeroMg zeroMg (W m) (zeroMg_R _ _) (zeroMg_R _ _) rfl (fun i hi => hi.elim) (fun i hi => hi.elim)
          have T := Lib.hid hT
          clear hWB hWall cx hx F4 F6 hnl hT
          have hfin : ∀ w7, Fli w7 S g ns → Below w.heap.size w w7 → Calls Try.prog 36 #[.pointer (some ⟨g, 0, none⟩), .int .i64 at_] w7 fun r w' => r = .returned (.tuple #[.agg #[.int .i64 0, .int .i64 0, .int .i64 0, .slice none 0 0, .slice none 0 0], .bool false]) ∧ Fli w' S g ns ∧ Below w.heap.size w w' := fun w7 h1 h2 => (take_out w7 S g ns h1 at_ hout2).mono fun _ _ ⟨h3, h4⟩ => ⟨h3, h1.below h4, next_below h2 h4⟩
          have FIN := Lib.hid hfin
          clear hfin hout2
          have hor : (∃ d1 : decide (0 ≤ at_) = false, True) ∨ (∃ d1 : decide (0 ≤ at_) = true, decide (at_ < (n : Int)) = false) := by
            by_cases h0 : 0 ≤ at_
            · exact .inr ⟨by simp [h0], by simp; omega⟩
            · exact .inl ⟨by simp; omega, trivial⟩
          clear hin hout
          rcases hor with ⟨d1, _⟩ | ⟨d1, d2⟩
          all_goals
            (refine wp_region_family (by kernel_rfl) (by kernel_rfl) hW0 ?_
             repeat (go_big_quiet_step (first
               | (go_at_call 37; exact calls_family (between_fix (W _) S g ns (FF.out _) f t z l HK.out HZ.out) HWB.out (Nat.le_refl _) HWall.out)
               | (go_at_call 34; exact calls_family (T.out _) HWB.out (Nat.le_refl _) HWall.out)))
             refine wpQuiet_nil ?_
             rintro _ ⟨nq, rfl⟩
             have F7 := FF.out nq
             have k7 := next_below k6 (HWB.out nq)
             clear r0 r1 r2 r3 r4
             go_wp2_with fail
             refine (FIN.out _ F7 k7).mono ?_
             rintro e w8 ⟨rfl, F8, k8⟩
             clear F7 k7
             go_wp2_with fail
             have F9 := F8.below ((Below.refl w8.heap.size w8).alloc (Nat.le_refl _) (.cells #[.int .i64 0, .int .i64 0, .int .i64 0, .slice none 0 0, .slice none 0 0] 54))
             have k9 : Below w.heap.size w (w8.alloc (.cells #[.int .i64 0, .int .i64 0, .int .i64 0, .slice none 0 0, .slice none 0 0] 54)) := k8.alloc k8.size _
             refine (len_any _ S g ns F9).mono ?_
             rintro e _ ⟨rfl, rfl⟩
             rw [HNL.out]
             have hee : ((n : Int) == (n : Int)) = true := by simp
             go_wp2_with fail
             refine (known29 _).mono ?_
             rintro e w10 ⟨rfl, b10⟩
             have k10 := next_below k9 b10
             go_wp2
             go_ret
             exact ⟨rfl, k10⟩)
end Go.Proofs.Ytcidmlpjobdakaa
