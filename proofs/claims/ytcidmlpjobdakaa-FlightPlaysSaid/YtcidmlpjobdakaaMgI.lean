/- Lists of messages and of acts; Long. -/
import Derived.Test.YtcidmlpjobdakaaMgH
namespace Go.Proofs.Ytcidmlpjobdakaa
set_option linter.unusedSimpArgs false
set_option linter.unusedVariables false
set_option linter.unnecessarySimpa false
open Go.RowKit

theorem flat_length {α : Type} {f : α → List Value} {s : Nat} (hf : ∀ a, (f a).length = s) (l : List α) : (l.flatMap f).length = l.length * s := by
  induction l with
  | nil => simp
  | cons r l ih => rw [List.flatMap_cons, List.length_append, ih, hf, List.length_cons, Nat.succ_mul]; omega
theorem flat_get {α : Type} {f : α → List Value} {s : Nat} (hf : ∀ a, (f a).length = s) (l : List α) (k j : Nat) (r : α) (h : l[k]? = some r) (hj : j < s) : (l.flatMap f)[k * s + j]? = (f r)[j]? := by
  induction l generalizing k with
  | nil => simp at h
  | cons a l ih =>
    rw [List.flatMap_cons]
    rcases k with _ | k
    · simp at h; subst h
      rw [List.getElem?_append_left (by rw [hf]; omega)]; simp
    · rw [List.getElem?_append_right (by rw [hf, Nat.succ_mul]; omega), show (k + 1) * s + j - (f a).length = k * s + j from by rw [hf, Nat.succ_mul]; omega]
      exact ih k (by simpa using h)
/-- A slice reads as messages, with all they hold. -/
def RM (w : World) (P : Nat → Prop) (A : Option Addr) (n : Nat) (l : List Mg) : Prop := Reads w P 5 A n (mcs l) ∧ ∀ m ∈ l, MgR w P m
section
variable {w w' : World} {P Q : Nat → Prop} {n : Nat} {A : Option Addr} {l : List Mg}
theorem RM.len (h : RM w P A n l) : l.length = n := by have := h.1.1; rw [mcs_length] at this; omega
theorem RM.keep (h : RM w P A n l) (hk : Same P w w') : RM w' P A n l := ⟨Reads.keep h.1 hk, fun e he => (h.2 e he).keep hk⟩
theorem RM.more (h : RM w P A n l) (hQ : ∀ i, P i → Q i) : RM w Q A n l := ⟨Reads.more h.1 hQ, fun e he => (h.2 e he).more hQ⟩
theorem RM.fre {S : Nat → Prop} (h : RM w (Fre S w) A n l) (ho : Off S w w') : RM w' (Fre S w') A n l :=
  (h.keep fun i hi => ho.2 i hi.2 hi.1).more fun _ hi => ⟨hi.1, Nat.lt_of_lt_of_le hi.2 ho.size⟩
theorem RM.nil (w : World) (P : Nat → Prop) (A : Option Addr) : RM w P A 0 [] := ⟨Reads.zero, fun e h => by cases h⟩
theorem RM.cell (h : RM w P A n l) {k : Nat} (hk : k < n) : ∃ b off r, A = some ⟨b, off, none⟩ ∧ P b ∧ l[k]? = some r ∧ MgR w P r ∧
    ∀ j u, (mc r)[j]? = some u → w.cell? ⟨b, off + k * 5 + j, none⟩ = some u := by
  obtain ⟨b, off, e, hb, hc⟩ := h.1.2 (by omega)
  have hl : k < l.length := by rw [h.len]; exact hk
  have hg := List.getElem?_eq_getElem hl
  refine ⟨b, off, l[k], e, hb, hg, h.2 _ (List.getElem_mem hl), fun j u hu => ?_⟩
  have hj : j < 5 := by
    have := (List.getElem?_eq_some_iff.1 hu).1
    rwa [mc_length] at this
  have := hc (k * 5 + j) u (by rw [mcs_get l k j _ hg hj]; exact hu)
  rwa [← Nat.add_assoc] at this
end
/-- An act: its words, where its messages lie, these. -/
structure Ac where
  kind : Int
  i : Int
  k : Int
  A : Option Addr
  n : Nat
  c : Nat
  msgs : List Mg
def av (a : Ac) : List Value := [.int .i64 a.kind, .int .i64 a.i, .int .i64 a.k, .slice a.A a.n a.c]
theorem av_length (a : Ac) : (av a).length = 4 := rfl
def AcR (w : World) (P : Nat → Prop) (a : Ac) : Prop := RM w P a.A a.n a.msgs ∧ a.n ≤ a.c ∧ a.c ≤ 9223372036854775807 ∧ (a.A = none → a.c = 0)
def RA (w : World) (P : Nat → Prop) (A : Option Addr) (n : Nat) (l : List Ac) : Prop := Reads w P 4 A n (l.flatMap av) ∧ ∀ a ∈ l, AcR w P a
section
variable {w w' : World} {P Q : Nat → Prop} {n : Nat} {A : Option Addr} {l : List Ac}
theorem AcR.keep {a : Ac} (h : AcR w P a) (hk : Same P w w') : AcR w' P a := ⟨h.1.keep hk, h.2⟩
theorem AcR.more {a : Ac} (h : AcR w P a) (hQ : ∀ i, P i → Q i) : AcR w Q a := ⟨h.1.more hQ, h.2⟩
theorem RA.len (h : RA w P A n l) : l.length = n := by have := h.1.1; rw [flat_length av_length] at this; omega
theorem RA.keep (h : RA w P A n l) (hk : Same P w w') : RA w' P A n l := ⟨Reads.keep h.1 hk, fun e he => (h.2 e he).keep hk⟩
theorem RA.more (h : RA w P A n l) (hQ : ∀ i, P i → Q i) : RA w Q A n l := ⟨Reads.more h.1 hQ, fun e he => (h.2 e he).more hQ⟩
theorem RA.cell (h : RA w P A n l) {k : Nat} (hk : k < n) : ∃ b off r, A = some ⟨b, off, none⟩ ∧ P b ∧ l[k]? = some r ∧ AcR w P r ∧
    ∀ j u, (av r)[j]? = some u → w.cell? ⟨b, off + k * 4 + j, none⟩ = some u := by
  obtain ⟨b, off, e, hb, hc⟩ := h.1.2 (by omega)
  have hl : k < l.length := by rw [h.len]; exact hk
  have hg := List.getElem?_eq_getElem hl
  refine ⟨b, off, l[k], e, hb, hg, h.2 _ (List.getElem_mem hl), fun j u hu => ?_⟩
  have hj : j < 4 := by
    have := (List.getElem?_eq_some_iff.1 hu).1
    rwa [av_length] at this
  have := hc (k * 4 + j) u (by rw [flat_get av_length l k j _ hg hj]; exact hu)
  rwa [← Nat.add_assoc] at this
end

set_option maxHeartbeats 800000 in
theorem long09_any (P : Nat → Prop) (A : Option Addr) (n c : Nat) (l : List Ev) (w : World) (hb : RE w P A n l) (hn : n ≤ 9223372036854775807) :
    Calls Try.prog 46 #[.slice A n c] w fun r w' => ∃ β : Bool, r = .returned (.bool β) ∧ (β = false → n ≤ 60 ∧ ∀ e ∈ l, e.n ≤ 80) ∧ ∃ q, w' = w.drewN q := by
  by_cases h0 : 60 < n
  · have d0 : decide (60 < (n : Int)) = true := by simp; omega
    go_enter Try.func46, Try.ntmps46
    go_wp2
    go_ret
    exact ⟨true, rfl, (fun h => by cases h), 0, rfl⟩
  · have d0 : decide (60 < (n : Int)) = false := by simp; omega
    go_enter Try.func46, Try.ntmps46
    go_wp2
    go_loopw [3] (fun i wr => ∃ k q : Nat, k ≤ n ∧ i = .int .i64 k ∧ wr = w.drewN q ∧ ∀ (j : Nat) (e : Ev), j < k → l[j]? = some e → e.n ≤ 80) (fun i _ => n - (intOf i).toNat)
    case atStart => exact ⟨0, 0, by omega, rfl, rfl, fun j e hj => by omega⟩
    case round =>
      obtain ⟨k, q, hk, rfl, rfl, hall⟩ := hrel
      have HA := Lib.hid hall
      clear hall
      by_cases hlt : k < n
      · obtain ⟨b, off, r, rfl, _, hr, er, hc⟩ := (hb.dn q).cell hlt
        have c3 := hc 3 _ rfl
        have hk1 : (k : Int) < (n : Int) := by omega
        have hk0 : (0 : Int) ≤ (k : Int) := by omega
        have HR := Lib.hid hr
        clear hr hc er
        by_cases h8 : 80 < r.n
        · have d8 : decide (80 < (r.n : Int)) = true := by simp; omega
          go_wp2
          go_ret
          exact ⟨true, rfl, (fun h => by cases h), _, rfl⟩
        · have d8 : decide (80 < (r.n : Int)) = false := by simp; omega
          go_wp2
          go_roundw
          case rel => exact ⟨k + 1, q, by omega, by go_num, rfl, fun j e hj he => by
            by_cases hjk : j = k
            · subst hjk
              rw [HR.out] at he
              cases he
              omega
            · exact HA.out j e (by omega) he⟩
          case measure => simp [intOf]; omega
      · obtain rfl : k = n := by omega
        go_wp2
        go_ret
        refine ⟨false, rfl, fun _ => ⟨by omega, fun e he => ?_⟩, _, rfl⟩
        obtain ⟨j, hj, hje⟩ := List.getElem_of_mem he
        exact HA.out j e (by rw [← hb.len]; exact hj) (by rw [List.getElem?_eq_getElem hj, hje])

def ShortM (m : Mg) : Prop := m.vn ≤ 80 ∧ m.en ≤ 60 ∧ ∀ e ∈ m.evs, e.n ≤ 80
def ShortA (a : Ac) : Prop := a.n ≤ 40 ∧ ∀ m ∈ a.msgs, ShortM m
theorem ShortM.fits {m : Mg} (h : ShortM m) : Fits m := ⟨by have := h.1; omega, by have := h.2.1; omega, fun e he => by have := h.2.2 e he; omega⟩

set_option maxHeartbeats 800000 in
set_option maxRecDepth 100000 in
theorem long29_any (P : Nat → Prop) (A : Option Addr) (n c : Nat) (l : List Ac) (w : World) (hb : RA w P A n l) (hn : n ≤ 9223372036854775807) :
    Calls Try.prog 25 #[.slice A n c] w fun r w' => ∃ β : Bool, r = .returned (.bool β) ∧ (β = false → n ≤ 60 ∧ ∀ a ∈ l, ShortA a) ∧ ∃ q, w' = w.drewN q := by
  by_cases h0 : 60 < n
  · have d0 : decide (60 < (n : Int)) = true := by simp; omega
    go_enter Try.func25, Try.ntmps25
    go_wp2
    go_ret
    exact ⟨true, rfl, (fun h => by cases h), 0, rfl⟩
  · have d0 : decide (60 < (n : Int)) = false := by simp; omega
    go_enter Try.func25, Try.ntmps25
    go_wp2
    go_loopw [3] (fun i wr => ∃ k q : Nat, k ≤ n ∧ i = .int .i64 k ∧ wr = w.drewN q ∧ ∀ (j : Nat) (e : Ac), j < k → l[j]? = some e → ShortA e) (fun i _ => n - (intOf i).toNat)
    case atStart => exact ⟨0, 0, by omega, rfl, rfl, fun j e hj => by omega⟩
    case round =>
      obtain ⟨k, q, hk, rfl, rfl, hall⟩ := hrel
      have HA := Lib.hid hall
      clear hall
      by_cases hlt : k < n
      · obtain ⟨b, off, r, rfl, _, hr, er, hc⟩ := RA.cell (w := w.drewN q) hb hlt
        have c3 := hc 3 _ rfl
        have hk1 : (k : Int) < (n : Int) := by omega
        have hk0 : (0 : Int) ≤ (k : Int) := by omega
        have HR := Lib.hid hr
        clear hr hc
        by_cases h4 : 40 < r.n
        · have d4 : decide (40 < (r.n : Int)) = true := by simp; omega
          go_wp2
          go_ret
          exact ⟨true, rfl, (fun h => by cases h), _, rfl⟩
        · have d4 : decide (40 < (r.n : Int)) = false := by simp; omega
          go_wp2
          go_loopw [4] (fun i wr => ∃ k2 q2 : Nat, k2 ≤ r.n ∧ i = .int .i64 k2 ∧ wr = w.drewN q2 ∧ ∀ (j : Nat) (m : Mg), j < k2 → r.msgs[j]? = some m → ShortM m) (fun i _ => r.n - (intOf i).toNat)
          case atStart => exact ⟨0, q, by omega, rfl, rfl, fun j e hj => by omega⟩
          case round =>
            obtain ⟨k2, q2, hk2, rfl, rfl, hall2⟩ := hrel
            have HA2 := Lib.hid hall2
            clear hall2
            have c3 : (w.drewN q2).cell? ⟨b, off + k * 4 + 3, none⟩ = some (.slice r.A r.n r.c) := c3
            by_cases hlt2 : k2 < r.n
            · obtain ⟨b2, off2, m, hA, _, hm, mm, hc2⟩ := RM.cell (w := w.drewN q2) er.1 hlt2
              have y3 := hc2 3 _ rfl
              have y4 := hc2 4 _ rfl
              have hk21 : (k2 : Int) < (r.n : Int) := by omega
              have hk20 : (0 : Int) ≤ (k2 : Int) := by omega
              rw [hA] at c3
              have HA3 := Lib.hid hA
              clear hA
              have HM := Lib.hid hm
              clear hm hc2
              by_cases h8 : 80 < m.vn
              · have d8 : decide (80 < (m.vn : Int)) = true := by simp; omega
                go_wp2
                go_ret
                exact ⟨true, rfl, (fun h => by cases h), _, rfl⟩
              · have d8 : decide (80 < (m.vn : Int)) = false := by simp; omega
                go_wp2_with fail
                refine (long09_any P m.EA m.en m.ecap m.evs _ mm.2.2.1 (by have := mm.2.2.2.1; have := mm.2.2.2.2.1; omega)).mono ?_
                rintro e w3 ⟨β, rfl, hβ, q3, rfl⟩
                rw [World.drewN_drewN]
                have Hβ := Lib.hid hβ
                clear hβ
                cases β with
                | true =>
                  go_wp2
                  go_ret
                  exact ⟨true, rfl, (fun h => by cases h), _, rfl⟩
                | false =>
                  have hs : ShortM m := ⟨by omega, (Hβ.out rfl).1, (Hβ.out rfl).2⟩
                  go_wp2
                  go_roundw
                  case rel => exact ⟨k2 + 1, _, by omega, by go_num, rfl, fun j e hj he => by
                    by_cases hjk : j = k2
                    · subst hjk
                      rw [HM.out] at he
                      cases he
                      exact hs
                    · exact HA2.out j e (by omega) he⟩
                  case measure => simp [intOf]; omega
            · obtain rfl : k2 = r.n := by omega
              have hs : ShortA r := ⟨by omega, fun m hm => by
                obtain ⟨j, hj, hje⟩ := List.getElem_of_mem hm
                exact HA2.out j m (by rw [← er.1.len]; exact hj) (by rw [List.getElem?_eq_getElem hj, hje])⟩
              go_wp2
              go_roundw
              case rel => exact ⟨k + 1, _, by omega, by go_num, rfl, fun j e hj he => by
                by_cases hjk : j = k
                · subst hjk
                  rw [HR.out] at he
                  cases he
                  exact hs
                · exact HA.out j e (by omega) he⟩
              case measure => simp [intOf]; omega
      · obtain rfl : k = n := by omega
        go_wp2
        go_ret
        refine ⟨false, rfl, fun _ => ⟨by omega, fun e he => ?_⟩, _, rfl⟩
        obtain ⟨j, hj, hje⟩ := List.getElem_of_mem he
        exact HA.out j e (by rw [← hb.len]; exact hj) (by rw [List.getElem?_eq_getElem hj, hje])
end Go.Proofs.Ytcidmlpjobdakaa
