/- Numbers in slices, and events of eleven words, as they lie in memory (seat c: chapters 14 and 29). -/
import Derived.Test.YtcidmlpjobdakaaWords
import Derived.Test.YtcidmlpjobdakaaRows
import Derived.Deep.QuietTactic
import Derived.BigQuiet
import Derived.Lib.Hide
import Derived.WalkSpells
import Derived.WalkLawsBesides
import Derived.Laws.StructEq
namespace Go.Proofs.Ytcidmlpjobdakaa
set_option linter.unusedSimpArgs false
set_option linter.unusedVariables false
set_option linter.unnecessarySimpa false
open Go.RowKit

theorem infoInt : (Try.prog.info? 3).map (fun i => (i.zero, i.size, i.bytes)) = some (some (.int .i64 0), 1, 8) := by kernel_rfl
theorem next_below {w w1 w2 : World} (h : Below w.heap.size w w1) (k : Below w1.heap.size w1 w2) : Below w.heap.size w w2 := h.trans (k.mono h.size)
theorem own_base {w : World} {base base' : Nat} {e : TypeId} {size : Nat} {v : Value} {n : Nat} {xs : List Value} (h : w.ownsRow base e size v n xs) (hb : base' ≤ base) : w.ownsRow base' e size v n xs := by
  refine ⟨h.1, ?_⟩
  rcases h.2 with h2 | ⟨g, cap, cur, hv, hg, r⟩
  · exact .inl h2
  · exact .inr ⟨g, cap, cur, hv, Nat.le_trans hb hg, r⟩
theorem own_below {w w' : World} {base : Nat} {e : TypeId} {size : Nat} {v : Value} {n : Nat} {xs : List Value} (h : w.ownsRow base e size v n xs) (hb : Below w.heap.size w w') : w'.ownsRow base e size v n xs := by
  refine ⟨h.1, ?_⟩
  rcases h.2 with h2 | ⟨g, cap, cur, hv, hg, hh, r⟩
  · exact .inl h2
  · exact .inr ⟨g, cap, cur, hv, hg, by rw [hb.block g (Array.getElem?_eq_some_iff.1 hh).1]; exact hh, r⟩
theorem froz_below {B : Nat} {w w' : World} (h : Below B w w') (p : Addr) (hp : p.block < B) : w'.frozen? p = w.frozen? p := by
  unfold World.frozen?
  rw [h.block p.block hp]
def ints (zs : List Int) : List Value := zs.map (Value.int .i64)
theorem ints_append (a b : List Int) : ints (a ++ b) = ints a ++ ints b := by simp [ints]
theorem ints_one (zs : List Int) : ∀ u ∈ ints zs, u.oneCell' = true := by
  intro u hu
  simp only [ints, List.mem_map] at hu
  obtain ⟨z, _, rfl⟩ := hu
  rfl
/-- A slice reads as numbers. -/
def RN (w : World) (P : Nat → Prop) (A : Option Addr) (n : Nat) (zs : List Int) : Prop := Reads w P 1 A n (ints zs)
section
variable {w w' : World} {P Q : Nat → Prop} {n : Nat} {A : Option Addr} {zs : List Int}
theorem RN.len (h : RN w P A n zs) : zs.length = n := by have := h.1; simp [ints] at this; omega
theorem RN.keep (h : RN w P A n zs) (hk : Same P w w') : RN w' P A n zs := Reads.keep h hk
theorem RN.below {B : Nat} (h : RN w (· < B) A n zs) (hb : Below B w w') : RN w' (· < B) A n zs := Reads.below h hb
theorem RN.more (h : RN w P A n zs) (hQ : ∀ i, P i → Q i) : RN w Q A n zs := Reads.more h hQ
theorem RN.nil (w : World) (P : Nat → Prop) (A : Option Addr) : RN w P A 0 [] := Reads.zero
theorem RN.dn (h : RN w P A n zs) (q : Nat) : RN (w.drewN q) P A n zs := h
theorem RN.cell (h : RN w P A n zs) {k : Nat} (hk : k < n) : ∃ b off z, A = some ⟨b, off, none⟩ ∧ P b ∧ zs[k]? = some z ∧ w.cell? ⟨b, off + k, none⟩ = some (.int .i64 z) := by
  obtain ⟨b, off, e, hb⟩ := Reads.at_ h (by omega)
  have hkl : k < zs.length := by rw [RN.len h]; exact hk
  have hg := List.getElem?_eq_getElem hkl
  exact ⟨b, off, zs[k], e, hb, hg, Reads.cell h e (by simp [ints, hg])⟩
end

set_option maxHeartbeats 400000 in
theorem copyInts_any (P : Nat → Prop) (A : Option Addr) (n c : Nat) (zs : List Int) (w : World) (hb : RN w P A n zs) (hP : ∀ i, P i → i < w.heap.size) (hn : n ≤ 1099511627776) :
    Calls Try.prog 58 #[.slice A n c] w fun e w' => ∃ v, e = .returned v ∧ w'.ownsRow w.heap.size 3 1 v n (ints zs) ∧ Below w.heap.size w w' := by
  go_enter Try.func58, Try.ntmps58
  go_wp2
  go_loopw [3, 4] (fun v i wr => ∃ k : Nat, k ≤ n ∧ i = .int .i64 k ∧ wr.ownsRow w.heap.size 3 1 v k (ints (zs.take k)) ∧ Below w.heap.size w wr) (fun _ i _ => n - (intOf i).toNat)
  case atStart => exact ⟨0, by omega, rfl, World.ownsRow_nil _ _ _ _, Below.refl _ _⟩
  case round =>
    obtain ⟨k, hk, rfl, hown, hB⟩ := hrel
    by_cases hlt : k < n
    · obtain ⟨b, off, x, rfl, hPb, hx, hc⟩ := hb.cell hlt
      have hcr := (hB.cell (p := ⟨b, off + k, none⟩) (hP b hPb)).trans hc
      have HX := Lib.hid (take_succ_get zs k x hx)
      have hsz := hB.size
      clear hx hc
      go_wp2_with (at_builtin; refine wpList_app1 wr #[.int .i64 x] rfl _ _ 31 rfl w.heap.size 3 (.int .i64 0) 1 8 Try.underlying31 infoInt rfl (by decide) _ k _ hown rfl rfl rfl (one1 _ rfl) (by omega) (by omega) hsz ?_; intro g cap w1 hown1 _ hb1 _ _)
      have R : w1.ownsRow w.heap.size 3 1 (.slice (some ⟨g, 0, none⟩) (k + 1) cap) (k + 1) (ints (zs.take (k + 1))) := by
        rw [HX.out, ints_append]; exact hown1
      have hB1 := hB.trans hb1
      clear hown1 hB hb1 hown hcr
      go_wp2
      go_roundw
      case rel => exact ⟨k + 1, by omega, by go_num, R, hB1⟩
      case measure => simp [intOf]; omega
    · obtain rfl : k = n := by omega
      have e : zs.take k = zs := List.take_of_length_le (Nat.le_of_eq hb.len)
      rw [e] at hown
      clear e
      go_wp2
      go_ret
      exact ⟨_, rfl, hown, hB⟩

set_option maxHeartbeats 400000 in
theorem sameInts_any (P Q : Nat → Prop) (A : Option Addr) (n c : Nat) (xs : List Int) (B : Option Addr) (m d : Nat) (ys : List Int) (w : World) (ha : RN w P A n xs) (hb : RN w Q B m ys) (hn : n ≤ 9223372036854775807) :
    Calls Try.prog 53 #[.slice A n c, .slice B m d] w fun e w' => e = .returned (.bool (decide (xs = ys))) ∧ ∃ q, w' = w.drewN q := by
  by_cases hnm : n = m
  · subst hnm
    go_enter Try.func53, Try.ntmps53
    go_wp2
    go_loopw [5] (fun i wr => ∃ k q : Nat, k ≤ n ∧ i = .int .i64 k ∧ wr = w.drewN q ∧ xs.take k = ys.take k) (fun i _ => n - (intOf i).toNat)
    case atStart => exact ⟨0, 0, by omega, rfl, rfl, by simp⟩
    case round =>
      obtain ⟨k, q, hk, rfl, rfl, htk⟩ := hrel
      have HTK := Lib.hid htk
      clear htk
      by_cases hlt : k < n
      · obtain ⟨b, off, x, rfl, _, hx, hcx⟩ := ha.cell hlt
        obtain ⟨b', off', y, rfl, _, hy, hcy⟩ := hb.cell hlt
        have h1 : (k : Int) < (n : Int) := by omega
        by_cases hxy : x = y
        · have hne : (x != y) = false := by simp [hxy]
          have hn1 : xs.take (k + 1) = ys.take (k + 1) := by rw [take_succ_get xs k x hx, take_succ_get ys k y hy, HTK.out, hxy]
          have HN := Lib.hid hn1
          clear hx hy hn1 hxy
          go_wp2
          go_quiet (fail)
          go_wp2
          go_roundw
          case rel => exact ⟨k + 1, _, by omega, by go_num, rfl, HN.out⟩
          case measure => simp [intOf]; omega
        · have hne : (x != y) = true := by simp [hxy]
          have hd : xs ≠ ys := by
            intro e
            rw [e] at hx
            rw [hx] at hy
            exact hxy (Option.some.inj hy)
          have hdd : decide (xs = ys) = false := by simp [hd]
          have HD := Lib.hid hdd
          clear hx hy hd hdd hxy
          go_wp2
          go_quiet (fail)
          go_wp2
          go_ret
          exact ⟨by rw [HD.out]; rfl, _, by rw [World.drewN_drewN]⟩
      · obtain rfl : k = n := by omega
        have hd : decide (xs = ys) = true := by
          have := HTK.out
          rw [List.take_of_length_le (Nat.le_of_eq ha.len), List.take_of_length_le (Nat.le_of_eq hb.len)] at this
          simp [this]
        have HD := Lib.hid hd
        clear hd
        go_wp2
        go_ret
        exact ⟨by rw [HD.out]; rfl, _, rfl⟩
  · have hd : decide (xs = ys) = false := by
      have h1 := ha.len
      have h2 := hb.len
      have : xs ≠ ys := fun e => hnm (by rw [← h1, ← h2, e])
      simp [this]
    have hne : ((n : Int) != (m : Int)) = true := by simp; omega
    rw [hd]
    clear hd
    go_enter Try.func53, Try.ntmps53
    go_wp2
    go_ret
    exact ⟨rfl, 0, rfl⟩
end Go.Proofs.Ytcidmlpjobdakaa
