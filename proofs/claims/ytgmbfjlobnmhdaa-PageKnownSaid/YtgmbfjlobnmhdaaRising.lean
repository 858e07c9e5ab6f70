/- Rising: rows of which those are let out that do not rise. -/
import Derived.Test.YtgmbfjlobnmhdaaRef18
namespace Go.Proofs.Ytgmbfjlobnmhdaa
open Go.RowKit

def risesAt (out : List Rw) (r : Rw) : Bool := match out.getLast? with | none => true | some x => decide (x.1 < r.1)
def risingStep (out : List Rw) (r : Rw) : List Rw := if risesAt out r then out ++ [r] else out
def rising (l : List Rw) : List Rw := l.foldl risingStep []
theorem rising_snoc (l : List Rw) (r : Rw) : rising (l ++ [r]) = risingStep (rising l) r := by unfold rising; rw [List.foldl_append]; rfl
theorem risingStep_mem {out : List Rw} {r x : Rw} (h : x ∈ risingStep out r) : x ∈ out ∨ x = r := by
  unfold risingStep at h
  split at h
  · simpa using h
  · exact .inl h
theorem rising_all (l : List Rw) : (rising l).length ≤ l.length ∧ (∀ x ∈ rising l, x ∈ l) ∧ Rise (rising l) := by
  suffices h : ∀ (l out : List Rw), Rise out → (l.foldl risingStep out).length ≤ out.length + l.length ∧ (∀ x ∈ l.foldl risingStep out, x ∈ out ∨ x ∈ l) ∧ Rise (l.foldl risingStep out) by
    have := h l [] (fun i j x y _ h _ => by simp at h)
    refine ⟨by have := this.1; rwa [List.length_nil, Nat.zero_add] at this, fun x hx => (this.2.1 x hx).resolve_left (by simp), this.2.2⟩
  intro l
  induction l with
  | nil => intro out h; exact ⟨by simp, fun x hx => .inl hx, h⟩
  | cons r l ih =>
    intro out h
    have hs : Rise (risingStep out r) := by
      unfold risingStep
      split
      · rename_i hr
        intro i j x y hij hx hy
        by_cases hj : j < out.length
        · rw [List.getElem?_append_left (by omega)] at hx
          rw [List.getElem?_append_left hj] at hy
          exact h i j x y hij hx hy
        · have hjl : j = out.length := by
            have := (List.getElem?_eq_some_iff.1 hy).1
            simp at this; omega
          subst hjl
          rw [List.getElem?_append_left (by omega)] at hx
          rw [List.getElem?_append_right (Nat.le_refl _)] at hy
          simp at hy
          subst hy
          unfold risesAt at hr
          rw [List.getLast?_eq_getElem?] at hr
          have hlast : out[out.length - 1]? = some (out[out.length - 1]'(by omega)) := List.getElem?_eq_getElem _
          rw [hlast] at hr
          simp at hr
          by_cases hi : i = out.length - 1
          · subst hi
            rw [hlast] at hx
            have := Option.some.inj hx
            rw [← this]; exact hr
          · have := h i (out.length - 1) x _ (by omega) hx hlast
            omega
      · exact h
    have hlen : (risingStep out r).length ≤ out.length + 1 := by
      unfold risingStep; split <;> simp
    obtain ⟨h1, h2, h3⟩ := ih (risingStep out r) hs
    refine ⟨by simp only [List.foldl_cons, List.length_cons]; omega, fun x hx => ?_, h3⟩
    rcases h2 x hx with h4 | h4
    · rcases risingStep_mem h4 with h5 | h5
      · exact .inl h5
      · exact .inr (by rw [h5]; exact List.mem_cons_self)
    · exact .inr (List.mem_cons_of_mem _ h4)

set_option maxHeartbeats 800000 in
theorem rising_any (P : Nat → Prop) (A : Option Addr) (n c : Nat) (l : List Rw) (w : World) (hb : RR w P A n l) (hP : ∀ i, P i → i < w.heap.size) (hn : n ≤ 1099511627000) :
    Calls Try.prog 9 #[.slice A n c] w fun e w' => ∃ v, e = .returned v ∧ w'.ownsRow w.heap.size 34 3 v (rising l).length (rcs (rising l)) ∧ Below w.heap.size w w' := by
  go_enter Try.func9, Try.ntmps9
  go_wp2
  go_loopw [3, 4] (fun v i wr => ∃ k : Nat, k ≤ n ∧ i = .int .i64 k ∧ wr.ownsRow w.heap.size 34 3 v (rising (l.take k)).length (rcs (rising (l.take k))) ∧ Below w.heap.size w wr) (fun _ i _ => n - (intOf i).toNat)
  case atStart => exact ⟨0, by omega, rfl, World.ownsRow_nil _ _ _ _, Below.refl _ _⟩
  case round =>
    obtain ⟨k, hk, rfl, hown, hB⟩ := hrel
    by_cases hlt : k < n
    · obtain ⟨b, off, r, rfl, hPb, hx, hr, hc0, hc1, hc2⟩ := hb.cell hlt
      have hd0 : wr.cell? ⟨b, off + k * 3, none⟩ = some (.int .i64 r.1) := (hB.cell (p := ⟨b, _, none⟩) (hP b hPb)).trans hc0
      have hd1 : wr.cell? ⟨b, off + k * 3 + 1, none⟩ = some (.int .i64 r.2.1) := (hB.cell (p := ⟨b, _, none⟩) (hP b hPb)).trans hc1
      have hd2 : wr.cell? ⟨b, off + k * 3 + 2, none⟩ = some (.int .i64 r.2.2) := (hB.cell (p := ⟨b, _, none⟩) (hP b hPb)).trans hc2
      have hs := rising_snoc (l.take k) r
      rw [← take_succ_get l k r hx] at hs
      have hle := (rising_all (l.take k)).1
      have hle2 : (l.take k).length ≤ k := List.length_take_le _ _
      obtain ⟨out, hout⟩ : ∃ out, out = rising (l.take k) := ⟨_, rfl⟩
      rw [← hout] at hown hle hs
      clear hc0 hc1 hc2 hx hout
      obtain ⟨m, hm⟩ : ∃ m, m = out.length := ⟨_, rfl⟩
      rw [← hm] at hown hle
      obtain ⟨A1, c1, rfl, hcc1, hcc2, _⟩ := own_form hown
      have hreads := own_reads hown
      rcases m with _ | j
      · have hnil : out = [] := List.eq_nil_of_length_eq_zero hm.symm
        subst hnil
        have hs' : rising (l.take (k + 1)) = [r] := hs
        have HS := Lib.hid hs'
        clear hs hs' hreads hm hle
        have hown0 : wr.ownsRow w.heap.size 34 3 (.slice A1 0 c1) 0 [] := hown
        clear hown
        go_wp2
        go_quiet (fail)
        go_wp2_with (at_builtin; (refine wpList_app1 _ #[.int .i64 r.1, .int .i64 r.2.1, .int .i64 r.2.2] rfl _ _ 22 rfl w.heap.size 34 (.agg #[.int .i64 0, .int .i64 0, .int .i64 0]) 3 24 Try.underlying22 infoRow rfl (by decide) _ 0 _ (own_drewN hown0 _) rfl rfl rfl (rcs_one [r]) (by omega) (by omega) hB.size ?_); intro g cap w1 hown1 _ hb1 _ _)
        have R : w1.ownsRow w.heap.size 34 3 (.slice (some ⟨g, 0, none⟩) 1 cap) (rising (l.take (k + 1))).length (rcs (rising (l.take (k + 1)))) := by
          rw [HS.out]; exact hown1
        clear hown1
        have hB1 := (below_drewN hB _).trans hb1
        clear hB hb1 hown0 hd0 hd1 hd2
        go_wp2
        go_roundw
        case rel => exact ⟨k + 1, by omega, by go_num, R, hB1⟩
        case measure => simp [intOf]; omega
      · have hj : out.length = j + 1 := hm.symm
        clear hm
        obtain ⟨b2, o2, rfl, _⟩ := hreads.at_ (by omega)
        obtain ⟨y, hy⟩ : ∃ y, out[j]? = some y := ⟨_, List.getElem?_eq_getElem (by omega)⟩
        have hcl : wr.cell? ⟨b2, o2 + j * 3, none⟩ = some (.int .i64 y.1) := hreads.cell rfl (by have := rcs_get out j 0 y hy (by decide); simpa [rc] using this)
        have hrs : risesAt out r = decide (y.1 < r.1) := by
          unfold risesAt
          rw [List.getLast?_eq_getElem?, hj, Nat.add_sub_cancel, hy]
        rw [risingStep, hrs] at hs
        have hw1 : IntKind.i64.wrap ((j : Int) + 1 - 1) = (j : Int) := (IntWalk.i64_in _ (by omega)).trans (by omega)
        have hj1 : (0 : Int) ≤ (j : Int) := by omega
        have hj2 : (j : Int) < (j : Int) + 1 := by omega
        have hj3 : ((j : Int) + 1 == 0) = false := by simp; omega
        have HJ := Lib.hid hj
        clear hreads hrs hy hj
        by_cases hg : y.1 < r.1
        · rw [if_pos (by simpa using hg)] at hs
          have HS := Lib.hid hs
          clear hs
          go_wp2
          go_quiet (fail)
          go_wp2_with (at_builtin; (refine wpList_app1 _ #[.int .i64 r.1, .int .i64 r.2.1, .int .i64 r.2.2] rfl _ _ 22 rfl w.heap.size 34 (.agg #[.int .i64 0, .int .i64 0, .int .i64 0]) 3 24 Try.underlying22 infoRow rfl (by decide) _ (j + 1) _ (own_drewN hown _) rfl rfl rfl (rcs_one [r]) (by omega) (by omega) hB.size ?_); intro g cap w1 hown1 _ hb1 _ _)
          have R : w1.ownsRow w.heap.size 34 3 (.slice (some ⟨g, 0, none⟩) (j + 1 + 1) cap) (rising (l.take (k + 1))).length (rcs (rising (l.take (k + 1)))) := by
            rw [HS.out, rcs_append, List.length_append, HJ.out]; exact hown1
          clear hown1
          have hB1 := (below_drewN hB _).trans hb1
          clear hB hb1 hown hd0 hd1 hd2 hw1 hj3
          go_wp2
          go_roundw
          case rel => exact ⟨k + 1, by omega, by go_num, R, hB1⟩
          case measure => simp [intOf]; omega
        · rw [if_neg (by simpa using hg)] at hs
          have R : wr.ownsRow w.heap.size 34 3 (.slice (some ⟨b2, o2, none⟩) (j + 1) c1) (rising (l.take (k + 1))).length (rcs (rising (l.take (k + 1)))) := by rw [hs, HJ.out]; exact hown
          clear hs hown hd1 hd2
          go_wp2
          go_quiet (fail)
          go_wp2
          go_roundw
          case rel => exact ⟨k + 1, by omega, by go_num, own_drewN R _, below_drewN hB _⟩
          case measure => simp [intOf]; omega
    · obtain rfl : k = n := by omega
      have e : l.take k = l := List.take_of_length_le (Nat.le_of_eq hb.len)
      rw [e] at hown
      clear e
      go_wp2
      go_ret
      exact ⟨_, rfl, hown, hB⟩
end Go.Proofs.Ytgmbfjlobnmhdaa
