/- Plain laws of rows of which one goes and one comes, between two pages. -/
import Derived.Test.YtgmbfjlobnmhdaaBehind
namespace Go.Proofs.Ytgmbfjlobnmhdaa

def cnt (y : Rw) (L : List Rw) : Nat := (L.filter fun x => decide (x = y)).length
theorem cnt_snoc (y x : Rw) (L : List Rw) : cnt y (L ++ [x]) = cnt y L + if x = y then 1 else 0 := by
  unfold cnt
  rw [List.filter_append, List.length_append]
  by_cases h : x = y <;> simp [h]
theorem Rise.snoc {L : List Rw} {x : Rw} (h : Rise L) (hx : ∀ r ∈ L, r.1 < x.1) : Rise (L ++ [x]) := by
  intro i j a b hij ha hb
  have hj : j < (L ++ [x]).length := (List.getElem?_eq_some_iff.1 hb).1
  rw [List.length_append] at hj
  simp at hj
  rw [List.getElem?_append_left (by omega)] at ha
  by_cases hl : j < L.length
  · rw [List.getElem?_append_left hl] at hb; exact h i j a b hij ha hb
  · rw [List.getElem?_append_right (by omega), show j - L.length = 0 from by omega] at hb
    simp at hb; subst hb
    exact hx a (List.mem_of_getElem? ha)
theorem Rise.append {L K : List Rw} (h : Rise L) (k : Rise K) (hx : ∀ r ∈ L, ∀ s ∈ K, r.1 < s.1) : Rise (L ++ K) := by
  intro i j a b hij ha hb
  by_cases hi : i < L.length
  · rw [List.getElem?_append_left hi] at ha
    by_cases hj : j < L.length
    · rw [List.getElem?_append_left hj] at hb; exact h i j a b hij ha hb
    · rw [List.getElem?_append_right (by omega)] at hb
      exact hx a (List.mem_of_getElem? ha) b (List.mem_of_getElem? hb)
  · rw [List.getElem?_append_right (by omega)] at ha hb
    exact k (i - L.length) (j - L.length) a b (by omega) ha hb
theorem Rise.take {L : List Rw} (h : Rise L) (k : Nat) : Rise (L.take k) := by
  intro i j a b hij ha hb
  rw [List.getElem?_take] at ha hb
  split at ha
  · split at hb
    · exact h i j a b hij ha hb
    · cases hb
  · cases ha
theorem Rise.behind {L : List Rw} (h : Rise L) (b : Int) : Rise (behindL L b) := by
  obtain ⟨k, _, e, _, _⟩ := behind_drop h b
  rw [e]
  intro i j x y hij hx hy
  rw [List.getElem?_drop] at hx hy
  exact h (k + i) (k + j) x y (by omega) hx hy
theorem cnt_le {L : List Rw} (h : Rise L) (y : Rw) : cnt y L ≤ 1 := by
  induction L with
  | nil => simp [cnt]
  | cons a L ih =>
    have ih' := ih h.tail
    by_cases ha : a = y
    · subst ha
      have : L.filter (fun x => decide (x = a)) = [] := by
        rw [List.filter_eq_nil_iff]
        intro x hx
        obtain ⟨i, hi, hi2⟩ := List.getElem_of_mem hx
        have := h 0 (i + 1) a x (by omega) rfl (by simp [List.getElem?_eq_getElem hi, hi2])
        intro e
        have e' := of_decide_eq_true e
        subst e'; omega
      unfold cnt
      rw [List.filter_cons, this]; simp
    · have e : cnt y (a :: L) = cnt y L := by unfold cnt; rw [List.filter_cons]; simp [ha]
      omega
theorem cnt_pos {L : List Rw} {y : Rw} (h : y ∈ L) : 1 ≤ cnt y L := List.length_pos_of_mem (List.mem_filter.2 ⟨h, by simp⟩)

/-- What the first loop has laid of k rows, and whether it has laid the one that comes (or knows its group). -/
def Laid (l : List Rw) (gone : Nat) (c : Rw) (k : Nat) (X : List Rw) (β : Bool) : Prop :=
  Rise X ∧ (∀ r ∈ X, RwOk r) ∧ X.length ≤ k + 1 ∧ (∀ r ∈ X, ∀ j y, k ≤ j → l[j]? = some y → r.1 < y.1) ∧ (β = false → X.length ≤ k ∧ ∀ r ∈ X, r.1 < c.1) ∧ (∀ j y, j < k → j ≠ gone → l[j]? = some y → y ∈ X)
theorem Laid.zero (l : List Rw) (gone : Nat) (c : Rw) : Laid l gone c 0 [] false :=
  ⟨fun i j x y _ hx => by simp at hx, fun r h => (by cases h), by simp, fun r h => (by cases h), fun _ => ⟨by simp, fun r h => (by cases h)⟩, fun j y h => by omega⟩
theorem Laid.come {l : List Rw} {gone k : Nat} {c y : Rw} {X : List Rw} (h : Laid l gone c k X false) (hR : Rise l) (hy : l[k]? = some y) (hc : RwOk c) (hlt : c.1 < y.1) : Laid l gone c k (X ++ [c]) true := by
  obtain ⟨h1, h2, h3, h4, h5, h6⟩ := h
  obtain ⟨h5, h7⟩ := h5 rfl
  refine ⟨h1.snoc h7, fun r hr => ?_, by simp; omega, fun r hr j z hj hz => ?_, fun e => (by cases e), fun j z hj hg hz => List.mem_append_left _ (h6 j z hj hg hz)⟩
  · rcases List.mem_append.1 hr with h | h
    · exact h2 r h
    · simp at h; subst h; exact hc
  · rcases List.mem_append.1 hr with h | h
    · exact h4 r h j z hj hz
    · simp at h; subst h
      rcases Nat.lt_or_ge k j with hkj | hkj
      · have := hR k j y z hkj hy hz; omega
      · obtain rfl : j = k := by omega
        rw [hy] at hz; cases hz; exact hlt
theorem Laid.stay {l : List Rw} {gone k : Nat} {c y : Rw} {X : List Rw} {β : Bool} (h : Laid l gone c k X β) (hR : Rise l) (hy : l[k]? = some y) (ho : RwOk y) (hb : β = false → ¬ c.1 < y.1) (β' : Bool) (hb' : β' = (β || decide (c.1 = y.1))) (X' : List Rw) (hX : X' = if k = gone then X else X ++ [y]) : Laid l gone c (k + 1) X' β' := by
  obtain ⟨h1, h2, h3, h4, h5, h6⟩ := h
  subst hX hb'
  have hlast : ∀ j z, k + 1 ≤ j → l[j]? = some z → y.1 < z.1 := fun j z hj hz => hR k j y z (by omega) hy hz
  by_cases hg : k = gone
  · rw [if_pos hg]
    refine ⟨h1, h2, by omega, fun r hr j z hj hz => h4 r hr j z (by omega) hz, fun e => ?_, fun j z hj hgj hz => h6 j z (by omega) hgj hz⟩
    have hβ : β = false := by cases β <;> simp_all
    exact ⟨by have := (h5 hβ).1; omega, (h5 hβ).2⟩
  · rw [if_neg hg]
    refine ⟨h1.snoc fun r hr => h4 r hr k y (Nat.le_refl _) hy, fun r hr => ?_, by simp; omega, fun r hr j z hj hz => ?_, fun e => ?_, fun j z hj hgj hz => ?_⟩
    · rcases List.mem_append.1 hr with h | h
      · exact h2 r h
      · simp at h; subst h; exact ho
    · rcases List.mem_append.1 hr with h | h
      · exact h4 r h j z (by omega) hz
      · simp at h; subst h; exact hlast j z hj hz
    · have hβ : β = false := by cases β <;> simp_all
      have hne : c.1 ≠ y.1 := by intro e'; rw [hβ] at e; simp [e'] at e
      have hlt := hb hβ
      refine ⟨by have := (h5 hβ).1; simp; omega, fun r hr => ?_⟩
      rcases List.mem_append.1 hr with h | h
      · exact (h5 hβ).2 r h
      · simp at h; subst h; omega
    · rcases Nat.lt_or_ge j k with hjk | hjk
      · exact List.mem_append_left _ (h6 j z hjk hgj hz)
      · obtain rfl : j = k := by omega
        rw [hy] at hz; cases hz; simp
/-- What the two pages tell holds each row at most once, and each that stayed. -/
theorem Laid.told {l : List Rw} {gone m M : Nat} {c r : Rw} {X : List Rw} {β : Bool} (h : Laid l gone c m X β) (hR : Rise l) (hm : l.length = m) (hM : M < m) (hr : l[M]? = some r) {i : Nat} {y : Rw} (hy : l[i]? = some y) :
    cnt y (l.take (M + 1) ++ behindL X r.1) ≤ 1 ∧ (i ≠ gone → cnt y (l.take (M + 1) ++ behindL X r.1) = 1) := by
  obtain ⟨h1, h2, h3, h4, h5, h6⟩ := h
  have hrise : Rise (l.take (M + 1) ++ behindL X r.1) := by
    refine (hR.take _).append (h1.behind _) fun a ha b hb => ?_
    have hb2 := (List.mem_filter.1 hb).2
    simp at hb2
    obtain ⟨k, hk, rfl⟩ := List.getElem_of_mem ha
    simp at hk
    rw [List.getElem_take]
    rcases Nat.lt_or_ge k M with hkM | hkM
    · have := hR k M l[k] r hkM (List.getElem?_eq_getElem (by omega)) hr; omega
    · obtain rfl : k = M := by omega
      have : l[k] = r := by rw [List.getElem?_eq_getElem (by omega)] at hr; exact Option.some.inj hr
      rw [this]; exact hb2
  refine ⟨cnt_le hrise y, fun hg => ?_⟩
  have hmem : y ∈ l.take (M + 1) ++ behindL X r.1 := by
    have hi : i < l.length := (List.getElem?_eq_some_iff.1 hy).1
    rcases Nat.lt_or_ge M i with hMi | hMi
    · refine List.mem_append_right _ (List.mem_filter.2 ⟨h6 i y (by omega) hg hy, ?_⟩)
      have := hR M i r y hMi hr hy
      simpa using this
    · refine List.mem_append_left _ (List.mem_of_getElem? (i := i) ?_)
      rw [List.getElem?_take, if_pos (by omega)]; exact hy
  have := cnt_pos hmem
  have := cnt_le hrise y
  omega
end Go.Proofs.Ytgmbfjlobnmhdaa
