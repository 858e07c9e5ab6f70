/- SameEvents, Clone at numbers and at events, CopyEvent, CopyEvents. -/
import Derived.Test.YtcidmlpjobdakaaEvB
namespace Go.Proofs.Ytcidmlpjobdakaa
set_option linter.unusedSimpArgs false
set_option linter.unusedVariables false
set_option linter.unnecessarySimpa false
open Go.RowKit

theorem key_at {xs ys : List Ev} (h : xs.map ekey = ys.map ekey) {k : Nat} {r s : Ev} (hr : xs[k]? = some r) (hs : ys[k]? = some s) : ekey r = ekey s := by
  have := congrArg (fun l => l[k]?) h
  simp only [List.getElem?_map, hr, hs, Option.map_some] at this
  exact Option.some.inj this

set_option maxHeartbeats 1600000 in
set_option maxRecDepth 100000 in
theorem sameEvents_yes (P Q : Nat → Prop) (A : Option Addr) (n c : Nat) (xs : List Ev) (B : Option Addr) (d : Nat) (ys : List Ev) (w : World) (ha : RE w P A n xs) (hb : RE w Q B n ys) (hk : xs.map ekey = ys.map ekey)
    (hP : ∀ i, P i → i < w.heap.size) (hQ : ∀ i, Q i → i < w.heap.size) (hn : n ≤ 9223372036854775807) :
    Calls Try.prog 54 #[.slice A n c, .slice B n d] w fun r w' => r = .returned (.bool true) ∧ Below w.heap.size w w' := by
  go_enter Try.func54, Try.ntmps54
  go_wp2
  go_loopw [5] (fun i wr => ∃ k : Nat, k ≤ n ∧ i = .int .i64 k ∧ Below w.heap.size w wr) (fun i _ => n - (intOf i).toNat)
  case atStart => exact ⟨0, by omega, rfl, Below.refl _ _⟩
  case round =>
    obtain ⟨k, hk', rfl, hB⟩ := hrel
    by_cases hlt : k < n
    · obtain ⟨b, off, r, rfl, _, hr, er, hc⟩ := (ha.keep fun i hi => hB.block i (hP i hi)).cell hlt
      obtain ⟨b', off', s, rfl, _, hs, es, hd⟩ := (hb.keep fun i hi => hB.block i (hQ i hi)).cell hlt
      have hkey := key_at hk hr hs
      have hki : (k : Int) < (n : Int) := by omega
      have hk0 : (0 : Int) ≤ (k : Int) := by omega
      obtain ⟨ι, W, hne, hW0, hWB, hWall⟩ := family wr.heap.size wr
      have hPr : ∀ i, P i → i < wr.heap.size := fun i hi => Nat.lt_of_lt_of_le (hP i hi) hB.size
      have hQr : ∀ i, Q i → i < wr.heap.size := fun i hi => Nat.lt_of_lt_of_le (hQ i hi) hB.size
      have cr : ∀ j u, (ec r)[j]? = some u → ∀ m, (W m).cell? ⟨b, off + k * 10 + j, none⟩ = some u := fun j u hu m =>
        ((hWB m).cell (p := ⟨b, off + k * 10 + j, none⟩) (World.block_lt_of_cell? _ _ (hc j u hu))).trans (hc j u hu)
      have cs : ∀ j u, (ec s)[j]? = some u → ∀ m, (W m).cell? ⟨b', off' + k * 10 + j, none⟩ = some u := fun j u hu m =>
        ((hWB m).cell (p := ⟨b', off' + k * 10 + j, none⟩) (World.block_lt_of_cell? _ _ (hd j u hu))).trans (hd j u hu)
      have r0 := cr 0 _ rfl
      have r1 := cr 1 _ rfl
      have r2 := cr 2 _ rfl
      have r3 := cr 3 _ rfl
      have r4 := cr 4 _ rfl
      have r5 := cr 5 _ rfl
      have r6 := cr 6 _ rfl
      have r7 := cr 7 _ rfl
      have r8 := cr 8 _ rfl
      have r9 := cr 9 _ rfl
      have s0 := cs 0 _ rfl
      have s1 := cs 1 _ rfl
      have s2 := cs 2 _ rfl
      have s3 := cs 3 _ rfl
      have s4 := cs 4 _ rfl
      have s5 := cs 5 _ rfl
      have s6 := cs 6 _ rfl
      have s7 := cs 7 _ rfl
      have s8 := cs 8 _ rfl
      have s9 := cs 9 _ rfl
      rw [Nat.add_zero] at r0 s0
      have ER := Lib.hid fun m => er.keep fun i hi => (hWB m).block i (hPr i hi)
      have ES := Lib.hid fun m => es.keep fun i hi => (hWB m).block i (hQr i hi)
      have HP := Lib.hid fun m => fun i (hi : P i) => Nat.lt_of_lt_of_le (hPr i hi) (hWB m).size
      have HQ := Lib.hid fun m => fun i (hi : Q i) => Nat.lt_of_lt_of_le (hQr i hi) (hWB m).size
      have HWB := Lib.hid hWB
      have HWall := Lib.hid hWall
      clear hWB hWall hr hs hc hd er es cr cs hPr hQr
      go_wp2_with fail
      refine wp_region_family (by kernel_rfl) (by kernel_rfl) hW0 ?_
      repeat (go_big_quiet_step ((go_at_call 44; exact calls_family (sameEvent_yes P Q r s _ (ER.out _) (ES.out _) hkey (HP.out _) (HQ.out _)) HWB.out (Nat.le_refl _) HWall.out)))
      refine wpQuiet_nil ?_
      rintro _ ⟨nq, rfl⟩
      have B2 := next_below hB (HWB.out nq)
      clear r0 r1 r2 r3 r4 r5 r6 r7 r8 r9 s0 s1 s2 s3 s4 s5 s6 s7 s8 s9
      go_wp2
      go_roundw
      case rel => exact ⟨k + 1, by omega, by go_num, B2⟩
      case measure => simp [intOf]; omega
    · obtain rfl : k = n := by omega
      go_wp2
      go_ret
      exact ⟨rfl, hB⟩

set_option maxHeartbeats 400000 in
theorem cloneInts_any (P : Nat → Prop) (A : Option Addr) (n c : Nat) (zs : List Int) (w : World) (hb : RN w P A n zs) (hP : ∀ i, P i → i < w.heap.size) (hn : n ≤ 1099511627000) (hA : A = none → n = 0 ∧ c = 0) :
    Calls Try.prog 60 #[.slice A n c] w fun e w' => ∃ v, e = .returned v ∧ w'.ownsRow w.heap.size 3 1 v n (ints zs) ∧ Below w.heap.size w w' := by
  rcases A with _ | ad
  · obtain ⟨rfl, rfl⟩ := hA rfl
    have hl : zs = [] := List.eq_nil_of_length_eq_zero hb.len
    subst hl
    have hnil := fun W (n c : Nat) => Lib.run_eql_slice_nil (P := Try.prog) W 31 3 none n c 0 0 Try.underlying31
    go_enter Try.func60, Try.ntmps60
    go_wp2
    go_ret
    exact ⟨_, rfl, World.ownsRow_nil _ _ _ _, Below.refl _ _⟩
  · have hnil := fun W (n c : Nat) => Lib.run_eql_slice_nil (P := Try.prog) W 31 3 (some ad) n c 0 0 Try.underlying31
    have hown : (w.alloc (.cells #[] 3)).ownsRow w.heap.size 3 1 (.slice (some ⟨w.heap.size, 0, none⟩) 0 0) 0 [] := World.ownsRow_made w #[] 0 (Nat.le_refl _) (by decide) rfl
    have hB : Below w.heap.size w (w.alloc (.cells #[] 3)) := (Below.refl _ _).alloc (Nat.le_refl _) _
    have hr : Reads (w.alloc (.cells #[] 3)) P 1 (some ad) n (ints zs) := Reads.keep hb fun i hi => hB.block i (hP i hi)
    go_enter Try.func60, Try.ntmps60
    go_wp2_with (at_builtin; (refine wpList_appN _ rfl _ _ 31 rfl w.heap.size 3 (.int .i64 0) 1 8 Try.underlying31 infoInt rfl (by decide) _ 0 _ hown rfl P _ n c _ hr rfl (ints_one zs) (by omega) (by omega) (by simp) ?_); intro v1 w1 hown1 _ hb1 _)
    have R : w1.ownsRow w.heap.size 3 1 v1 n (ints zs) := by
      rw [Nat.zero_add, List.nil_append] at hown1; exact hown1
    have hB1 := hB.trans hb1
    clear hown1 hb1 hB hr hown
    go_wp2
    go_ret
    exact ⟨_, rfl, R, hB1⟩
end Go.Proofs.Ytcidmlpjobdakaa
