/- The contracts of package page: Clone at rows, First, Search, Query. -/
import Derived.Test.YtgmbfjlobnmhdaaRw3
namespace Go.Proofs.Ytgmbfjlobnmhdaa
open Go.RowKit

/-- What First tells: how many. -/
def firstN (n : Nat) (most : Int) : Nat := min most.toNat n

set_option maxHeartbeats 400000 in
theorem clone_any (P : Nat → Prop) (A : Option Addr) (n c : Nat) (l : List Rw) (w : World) (hb : RR w P A n l) (hP : ∀ i, P i → i < w.heap.size) (hn : n ≤ 1099511627000) (hA : A = none → n = 0 ∧ c = 0) :
    Calls Try.prog 24 #[.slice A n c] w fun e w' => ∃ v, e = .returned v ∧ w'.ownsRow w.heap.size 34 3 v n (rcs l) ∧ Below w.heap.size w w' := by
  rcases A with _ | ad
  · obtain ⟨rfl, rfl⟩ := hA rfl
    have hl : l = [] := List.eq_nil_of_length_eq_zero hb.len
    subst hl
    have hnil := fun W (n c : Nat) => Lib.run_eql_slice_nil (P := Try.prog) W 22 34 none n c 0 0 Try.underlying22
    go_enter Try.func24, Try.ntmps24
    go_wp2
    go_ret
    exact ⟨_, rfl, World.ownsRow_nil _ _ _ _, Below.refl _ _⟩
  · have hnil := fun W (n c : Nat) => Lib.run_eql_slice_nil (P := Try.prog) W 22 34 (some ad) n c 0 0 Try.underlying22
    have hown : (w.alloc (.cells #[] 34)).ownsRow w.heap.size 34 3 (.slice (some ⟨w.heap.size, 0, none⟩) 0 0) 0 [] := World.ownsRow_made w #[] 0 (Nat.le_refl _) (by decide) rfl
    have hB : Below w.heap.size w (w.alloc (.cells #[] 34)) := (Below.refl _ _).alloc (Nat.le_refl _) _
    have hr : Reads (w.alloc (.cells #[] 34)) P 3 (some ad) n (rcs l) := Reads.keep hb.1 fun i hi => hB.block i (hP i hi)
    go_enter Try.func24, Try.ntmps24
    go_wp2_with (at_builtin; (refine wpList_appN _ rfl _ _ 22 rfl w.heap.size 34 (.agg #[.int .i64 0, .int .i64 0, .int .i64 0]) 3 24 Try.underlying22 infoRow rfl (by decide) _ 0 _ hown rfl P _ n c _ hr rfl (rcs_one l) (by omega) (by omega) (by simp) ?_); intro v1 w1 hown1 _ hb1 _)
    have R : w1.ownsRow w.heap.size 34 3 v1 n (rcs l) := by
      rw [Nat.zero_add, List.nil_append] at hown1; exact hown1
    have hB1 := hB.trans hb1
    clear hown1 hb1 hB hr hown
    go_wp2
    go_ret
    exact ⟨_, rfl, R, hB1⟩

theorem first_walk (N : Nat) (P : Nat → Prop) (A : Option Addr) (n c : Nat) (l : List Rw) (most : Int) (w : World) (hb : RR w P A n l) (hP : ∀ i, P i → i < w.heap.size) (hn : n ≤ 1099511627000) (hc : n ≤ c) (hc2 : c ≤ 9223372036854775807)
    (hm : I64 most) (hN : N = firstN n most) :
    Calls Try.prog 13 #[.slice A n c, .int .i64 most] w fun e w' => ∃ v, e = .returned (.tuple #[v, .bool (decide (N < n))]) ∧ w'.ownsRow w.heap.size 34 3 v N (rcs (l.take N)) ∧ Below w.heap.size w w' := by
  have hNn : N ≤ n := by rw [hN]; exact Nat.min_le_right _ _
  have hA : A = none → N = 0 ∧ N = 0 := fun h => by
    have : n = 0 := by
      rcases Nat.eq_zero_or_pos n with h0 | h0
      · exact h0
      · obtain ⟨b, off, e, _⟩ := hb.1.2 h0
        rw [h] at e; cases e
    omega
  have hr := hb.take hNn
  have HC := Lib.hid fun W (hW : w = W) => clone_any P A N N (l.take N) W (hW ▸ hr) (hW ▸ hP) (by omega) hA
  clear hr hA
  unfold I64 at hm
  unfold firstN at hN
  have fin : ∀ (M : Nat), N = M → M ≤ n → True := fun _ _ _ => trivial
  clear fin
  by_cases h0 : most < 0
  · obtain rfl : N = 0 := by omega
    clear hN
    go_enter Try.func13, Try.ntmps13
    go_wp2_with fail
    refine (HC.out w rfl).mono ?_
    rintro e w1 ⟨v, rfl, hown, hB⟩
    go_wp2
    go_ret2
    exact ⟨v, by simp, hown, hB⟩
  · obtain ⟨M, rfl⟩ := Int.eq_ofNat_of_zero_le (show 0 ≤ most by omega)
    by_cases h1 : M < n
    · obtain rfl : N = M := by omega
      clear hN
      go_enter Try.func13, Try.ntmps13
      go_wp2_with fail
      refine (HC.out w rfl).mono ?_
      rintro e w1 ⟨v, rfl, hown, hB⟩
      go_wp2
      go_ret2
      exact ⟨v, by simp [h1], hown, hB⟩
    · obtain rfl : N = n := by omega
      clear hN
      rcases Nat.lt_or_eq_of_le (Nat.le_of_not_lt h1) with h2 | rfl
      all_goals
        go_enter Try.func13, Try.ntmps13
        go_wp2_with fail
        refine (HC.out w rfl).mono ?_
        rintro e w1 ⟨v, rfl, hown, hB⟩
        go_wp2
        go_ret2
        exact ⟨v, by simp, hown, hB⟩

theorem query1_any (P : Nat → Prop) (A : Option Addr) (n c : Nat) (l : List Rw) (behind : Int) (bl bb : Nat) (h : Nat) (w : World) (hb : RR w P A n l) (hl : w.cell? ⟨bl, 0, none⟩ = some (.slice A n c)) (hbb : w.cell? ⟨bb, 0, none⟩ = some (.int .i64 behind))
    (hh : h < n) (hn : n ≤ 1099511627000) (r : Rw) (hr : l[h]? = some r) :
    Calls Try.prog 23 #[.int .i64 (h : Int), .pointer (some ⟨bl, 0, none⟩), .pointer (some ⟨bb, 0, none⟩)] w fun e w' => e = .returned (.bool (decide (behind < r.1))) ∧ ∃ q, w' = w.drewN q := by
  obtain ⟨b, off, r', rfl, _, hx, _, hc0, _, _⟩ := hb.cell hh
  obtain rfl : r' = r := Option.some.inj (hx.symm.trans hr)
  clear hx hr
  go_enter Try.func23, Try.ntmps23
  go_wp2
  go_quiet (fail)
  go_wp2
  go_ret
  exact ⟨rfl, _, rfl⟩

/-- Rows whose groups rise. -/
def Rise (l : List Rw) : Prop := ∀ (i j : Nat) (x y : Rw), i < j → l[i]? = some x → l[j]? = some y → x.1 < y.1
/-- How many rows stand at or ahead of a group. -/
def cutAt (l : List Rw) (b : Int) : Nat := (l.takeWhile fun r => decide (r.1 ≤ b)).length

theorem search_any (P : Nat → Prop) (A : Option Addr) (n c : Nat) (l : List Rw) (behind : Int) (bl bb : Nat) (w : World) (hb : RR w P A n l) (hl : w.cell? ⟨bl, 0, none⟩ = some (.slice A n c)) (hbb : w.cell? ⟨bb, 0, none⟩ = some (.int .i64 behind))
    (hn : n ≤ 1099511627000) (hR : Rise l) :
    Calls Try.prog 22 #[.int .i64 (n : Int), .func (.func 23) #[] #[.pointer (some ⟨bl, 0, none⟩), .pointer (some ⟨bb, 0, none⟩)]] w fun e w' =>
      ∃ at_ : Nat, e = .returned (.int .i64 (at_ : Int)) ∧ at_ ≤ n ∧ (∀ k r, k < at_ → l[k]? = some r → r.1 ≤ behind) ∧ (∀ k r, at_ ≤ k → l[k]? = some r → behind < r.1) ∧ ∃ q, w' = w.drewN q := by
  go_enter Try.func22, Try.ntmps22
  go_wp2
  go_loopw [5, 6] (fun i j wr => ∃ (I J q : Nat), I ≤ J ∧ J ≤ n ∧ i = .int .i64 I ∧ j = .int .i64 J ∧ wr = w.drewN q ∧ (∀ k r, k < I → l[k]? = some r → r.1 ≤ behind) ∧ (∀ k r, J ≤ k → l[k]? = some r → behind < r.1)) (fun i j _ => (intOf j).toNat - (intOf i).toNat)
  case atStart => exact ⟨0, n, 0, by omega, by omega, rfl, rfl, rfl, fun k r h => absurd h (by omega), fun k r h h2 => by
    have := (List.getElem?_eq_some_iff.1 h2).1
    rw [hb.len] at this; omega⟩
  case round =>
    obtain ⟨I, J, q, hIJ, hJ, rfl, rfl, rfl, h1, h2⟩ := hrel
    have H1 := Lib.hid h1
    have H2 := Lib.hid h2
    clear h1 h2
    by_cases hlt : I < J
    · obtain ⟨r, hr⟩ : ∃ r, l[(I + J) / 2]? = some r := ⟨_, List.getElem?_eq_getElem (by rw [hb.len]; omega)⟩
      have HQ := Lib.hid (query1_any P A n c l behind bl bb ((I + J) / 2) (w.drewN q) (hb.keep fun _ _ => rfl) hl hbb (by omega) hn r hr)
      have HR := Lib.hid hr
      clear hr
      have hsum : ((I : Int) + (J : Int)) / 2 = (((I + J) / 2 : Nat) : Int) := by omega
      obtain ⟨h, hh⟩ : ∃ h, h = (I + J) / 2 := ⟨_, rfl⟩
      rw [← hh] at hsum HQ HR
      have hh1 : I ≤ h := by omega
      have hh2 : h < J := by omega
      clear hh
      cases hp : decide (behind < r.1)
      · rw [hp] at HQ
        have hle : r.1 ≤ behind := by simpa using hp
        have hn1 : ∀ (k : Nat) (x : Rw), k < h + 1 → l[k]? = some x → x.1 ≤ behind := fun k x hk hx => by
          rcases Nat.lt_or_eq_of_le (Nat.le_of_lt_succ hk) with h3 | h3
          · have := hR k h x r h3 hx HR.out; omega
          · rw [h3] at hx; have := Option.some.inj (hx.symm.trans HR.out); rw [this]; exact hle
        have HN := Lib.hid hn1
        clear hn1 hle hp
        go_wp2_with fail
        refine HQ.out.mono ?_
        rintro e w1 ⟨rfl, q1, rfl⟩
        go_wp2
        go_roundw
        case rel => exact ⟨h + 1, J, _, by omega, by omega, by go_num, rfl, rfl, HN.out, H2.out⟩
        case measure => simp [intOf]; omega
      · rw [hp] at HQ
        have hlt2 : behind < r.1 := by simpa using hp
        have hn1 : ∀ (k : Nat) (x : Rw), h ≤ k → l[k]? = some x → behind < x.1 := fun k x hk hx => by
          rcases Nat.lt_or_eq_of_le hk with h3 | h3
          · have := hR h k r x h3 HR.out hx; omega
          · rw [← h3] at hx; have := Option.some.inj (hx.symm.trans HR.out); rw [this]; exact hlt2
        have HN := Lib.hid hn1
        clear hn1 hlt2 hp
        go_wp2_with fail
        refine HQ.out.mono ?_
        rintro e w1 ⟨rfl, q1, rfl⟩
        go_wp2
        go_roundw
        case rel => exact ⟨I, h, _, by omega, by omega, rfl, rfl, rfl, H1.out, HN.out⟩
        case measure => simp [intOf]; omega
    · obtain rfl : I = J := by omega
      go_wp2
      go_ret
      exact ⟨I, rfl, hJ, H1.out, H2.out, _, rfl⟩

/-- The rows behind a group. -/
def behindL (l : List Rw) (b : Int) : List Rw := l.filter fun r => decide (b < r.1)
theorem drop_behind {l : List Rw} {b : Int} {at_ : Nat} (h1 : ∀ k r, k < at_ → l[k]? = some r → r.1 ≤ b) (h2 : ∀ k r, at_ ≤ k → l[k]? = some r → b < r.1) : l.drop at_ = behindL l b := by
  have e : l = l.take at_ ++ l.drop at_ := (List.take_append_drop _ _).symm
  unfold behindL
  conv => rhs; rw [e, List.filter_append]
  have e1 : (l.take at_).filter (fun r => decide (b < r.1)) = [] := by
    rw [List.filter_eq_nil_iff]
    intro r hr
    obtain ⟨k, hk, hkr⟩ := List.getElem_of_mem hr
    have hk' : k < at_ := by simp at hk; omega
    have := h1 k r hk' (by rw [← hkr, List.getElem_take]; exact List.getElem?_eq_getElem _)
    simp; omega
  have e2 : (l.drop at_).filter (fun r => decide (b < r.1)) = l.drop at_ := by
    rw [List.filter_eq_self]
    intro r hr
    obtain ⟨k, hk, hkr⟩ := List.getElem_of_mem hr
    have := h2 (at_ + k) r (by omega) (by rw [← hkr, List.getElem_drop]; exact List.getElem?_eq_getElem _)
    simp; omega
  rw [e1, e2, List.nil_append]
theorem own_base {w : World} {base base' : Nat} {e : TypeId} {size : Nat} {v : Value} {n : Nat} {xs : List Value} (h : w.ownsRow base e size v n xs) (hb : base' ≤ base) : w.ownsRow base' e size v n xs := by
  refine ⟨h.1, ?_⟩
  rcases h.2 with h2 | ⟨g, cap, cur, hv, hg, r⟩
  · exact .inl h2
  · exact .inr ⟨g, cap, cur, hv, Nat.le_trans hb hg, r⟩

set_option maxHeartbeats 800000 in
theorem query_any (A : Option Addr) (n c : Nat) (l : List Rw) (behind most : Int) (w : World) (hb : RR w (· < w.heap.size) A n l) (hn : n ≤ 1099511627000) (hc : n ≤ c) (hc2 : c ≤ 9223372036854775807) (hR : Rise l)
    (hm : I64 most) :
    Calls Try.prog 11 #[.slice A n c, .int .i64 behind, .int .i64 most] w fun e w' => ∃ v N, N = firstN (behindL l behind).length most ∧ e = .returned (.tuple #[v, .bool (decide (N < (behindL l behind).length))]) ∧
      w'.ownsRow w.heap.size 34 3 v N (rcs ((behindL l behind).take N)) ∧ Below w.heap.size w w' := by
  have hmf : ∀ (fn : Fn) (first cap : Array Value) (w : World), (Instr.makeFunc fn first cap).run Try.prog w = .ok (.func fn first cap) w := fun _ _ _ _ => rfl
  obtain ⟨w2, hw2⟩ : ∃ w2, w2 = (w.alloc (.cells #[.slice A n c] 22)).alloc (.cells #[.int .i64 behind] 3) := ⟨_, rfl⟩
  have hB2 : Below w.heap.size w w2 := by rw [hw2]; exact ((Below.refl _ _).alloc (Nat.le_refl _) _).alloc (by simp) _
  have hc1 : w2.cell? ⟨w.heap.size, 0, none⟩ = some (.slice A n c) := by
    rw [hw2, World.cell?_alloc_past _ _ _ (by simp), World.cell?_alloc_at _ _ _ _ rfl]; rfl
  have hc3 : w2.cell? ⟨w.heap.size + 1, 0, none⟩ = some (.int .i64 behind) := by
    rw [hw2, World.cell?_alloc_at _ _ _ _ (by simp)]; rfl
  have HW := Lib.hid hw2
  clear hw2
  go_enter Try.func11, Try.ntmps11
  go_wp2_with fail
  rw [← HW.out]
  refine (search_any _ A n c l behind w.heap.size (w.heap.size + 1) w2 (hb.below hB2) hc1 hc3 hn hR).mono ?_
  rintro e w3 ⟨at_, rfl, ha, h1, h2, q, rfl⟩
  have hdrop := drop_behind h1 h2
  have hcut := (hb.below hB2).cut (k := at_) (cap := c) ha hc
  rw [hdrop] at hcut
  have hlen := hcut.len
  have hf := (first_walk (firstN (behindL l behind).length most) _ _ (n - at_) (c - at_) _ most (w2.drewN q) (hcut.keep fun _ _ => rfl) (fun i hi => Nat.lt_of_lt_of_le hi hB2.size) (by omega) (by omega) (by omega) hm (by rw [hlen])).mono
    (R' := fun e w' => ∃ v β, e = .returned (.tuple #[v, .bool β]) ∧ β = decide (firstN (behindL l behind).length most < (behindL l behind).length) ∧
      w'.ownsRow w.heap.size 34 3 v (firstN (behindL l behind).length most) (rcs ((behindL l behind).take (firstN (behindL l behind).length most))) ∧ Below w.heap.size w w')
    fun e w' ⟨v, h1, h2, h3⟩ => ⟨v, _, h1, by rw [hlen], own_base h2 hB2.size, (below_drewN hB2 q).trans (h3.mono hB2.size)⟩
  clear hcut h1 h2 hdrop hlen
  by_cases hca : c = at_
  · subst hca
    rw [if_pos rfl, Nat.sub_self, show n - c = 0 from by omega] at hf
    have HF := Lib.hid hf
    clear hf
    go_wp2_with fail
    refine HF.out.mono ?_
    rintro e w4 ⟨v, β, rfl, hβ, hown, hB⟩
    have HB := Lib.hid hβ
    clear hβ
    go_wp2
    go_ret2
    exact ⟨v, _, rfl, congrArg (fun b => Ending.returned (.tuple #[v, .bool b])) HB.out, hown, hB⟩
  · rw [if_neg hca] at hf
    have HF := Lib.hid hf
    clear hf
    go_wp2_with fail
    refine HF.out.mono ?_
    rintro e w4 ⟨v, β, rfl, hβ, hown, hB⟩
    have HB := Lib.hid hβ
    clear hβ
    go_wp2
    go_ret2
    exact ⟨v, _, rfl, congrArg (fun b => Ending.returned (.tuple #[v, .bool b])) HB.out, hown, hB⟩
end Go.Proofs.Ytgmbfjlobnmhdaa
