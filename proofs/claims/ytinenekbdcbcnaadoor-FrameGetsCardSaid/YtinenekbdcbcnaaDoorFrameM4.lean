/- Plain laws of frames, one behind the other. -/
import Derived.Test.YtinenekbdcbcnaaDoorFrameM3
namespace Go.Proofs.YtinenekbdcbcnaaDoor.Fr
open CrcM
/-- A kind and a body. -/
abbrev Kb := Int × List By
def kb (b : List By) : Kb := (((getL b).1 : Int), (getL b).2.1)
/-- Frames that bytes begin with, one behind the other, and how many bytes these have. -/
inductive Steps (bs : List By) : List Kb → Nat → Prop
  | nil : Steps bs [] 0
  | snoc {l : List Kb} {i : Nat} : Steps bs l i → errL (bs.drop i) = 0 → Steps bs (l ++ [kb (bs.drop i)]) (i + (getL (bs.drop i)).2.2.1)
theorem Steps.det {bs : List By} {a : List Kb} {i : Nat} (h : Steps bs a i) : ∀ {b : List Kb} {j : Nat}, Steps bs b j → a.length = b.length → a = b ∧ i = j := by
  induction h with
  | nil =>
    intro b j hb hl
    cases hb with
    | nil => exact ⟨rfl, rfl⟩
    | snoc _ _ => simp at hl
  | snoc h1 _ ih =>
    intro b j hb hl
    cases hb with
    | nil => simp at hl
    | snoc h2 _ =>
      simp at hl
      obtain ⟨rfl, rfl⟩ := ih h2 hl
      exact ⟨rfl, rfl⟩
theorem Steps.part {bs : List By} {b : List Kb} {j : Nat} (h : Steps bs b j) : ∀ m, m < b.length → ∃ i, Steps bs (b.take m) i ∧ errL (bs.drop i) = 0 := by
  induction h with
  | nil => intro m hm; simp at hm
  | snoc h1 he ih =>
    rename_i l i
    intro m hm
    rcases Nat.lt_or_ge m l.length with hl | hl
    · obtain ⟨i', hi, he'⟩ := ih m hl
      exact ⟨i', by rw [List.take_append_of_le_length (by omega)]; exact hi, he'⟩
    · simp at hm
      obtain rfl : m = l.length := by omega
      exact ⟨i, by rw [List.take_left' rfl]; exact h1, he⟩
theorem Steps.unique {bs : List By} {a b : List Kb} {i j : Nat} (h : Steps bs a i) (hi : errL (bs.drop i) ≠ 0) (k : Steps bs b j) (hj : errL (bs.drop j) ≠ 0) : a = b ∧ i = j := by
  rcases Nat.lt_trichotomy a.length b.length with hl | hl | hl
  · obtain ⟨i', h', he⟩ := k.part _ hl
    have e := (h.det h' (by simp; omega)).2
    rw [← e] at he
    exact absurd he hi
  · exact h.det k hl
  · obtain ⟨i', h', he⟩ := h.part _ hl
    have e := (k.det h' (by simp; omega)).2
    rw [← e] at he
    exact absurd he hj
theorem getD_take (l : List By) (r i : Nat) (h : i < r) : (l.take r).getD i 0 = l.getD i 0 := by simp [List.getD, List.getElem?_take, h]
/-- A frame's bytes that are cut off are too short. -/
theorem getL_cut {k r : Nat} {body rest : List By} (h1 : 1 ≤ k) (h2 : k ≤ 255) (hn : body.length ≤ 65536) (hr : r < body.length + 9) : getL ((bytesOf k body ++ rest).take r) = (0, [], 0, 4) := by
  obtain ⟨l, hl⟩ : ∃ l, l = bytesOf k body ++ rest := ⟨_, rfl⟩
  have hll : (l.take r).length = r := by rw [hl]; simp [bytesOf_length]; omega
  rw [← hl]
  by_cases h4 : r < 4
  · exact getL_short (by omega)
  have h0 : (l.take r).getD 0 0 = b8 k := by rw [getD_take _ _ _ (by omega), hl]; rfl
  have hL : lenL (l.take r) = body.length := by
    unfold lenL
    rw [getD_take _ _ _ (by omega), getD_take _ _ _ (by omega), getD_take _ _ _ (by omega)]
    have : 65536 * (l.getD 1 0).toNat + 256 * (l.getD 2 0).toNat + (l.getD 3 0).toNat = 65536 * (b8 (body.length / 65536)).toNat + 256 * (b8 (body.length / 256)).toNat + (b8 body.length).toNat := by rw [hl]; rfl
    rw [this, b8_nat, b8_nat, b8_nat]; omega
  exact getL_short2 (by omega) (by rw [h0]; intro e; have := congrArg BitVec.toNat e; rw [b8_nat] at this; simp at this; omega) (by omega) (by omega)
/-- Frames' bytes, one behind the other. -/
def cat (fs : List Kb) : List By := fs.flatMap fun f => bytesOf f.1.toNat f.2
def okKb (f : Kb) : Prop := 1 ≤ f.1 ∧ f.1 ≤ 255 ∧ f.2.length ≤ 500
theorem cat_append (a b : List Kb) : cat (a ++ b) = cat a ++ cat b := by simp [cat]
theorem cat_one (f : Kb) : cat [f] = bytesOf f.1.toNat f.2 := by simp [cat]
theorem cat_cons (f : Kb) (fs : List Kb) : cat (f :: fs) = bytesOf f.1.toNat f.2 ++ cat fs := by simp only [cat, List.flatMap_cons]
theorem cat_len (fs : List Kb) (h : ∀ f ∈ fs, okKb f) : (cat fs).length ≤ fs.length * 509 := by
  induction fs with
  | nil => simp [cat]
  | cons f fs ih =>
    have := ih fun g hg => h g (List.mem_cons_of_mem _ hg)
    have h1 := (h f (List.mem_cons_self ..)).2.2
    have e : cat (f :: fs) = bytesOf f.1.toNat f.2 ++ cat fs := by simp [cat]
    rw [e, List.length_append, bytesOf_length, List.length_cons]
    omega
theorem ends_mono (fs : List Kb) {a b : Nat} (h : a ≤ b) : (cat (fs.take a)).length ≤ (cat (fs.take b)).length := by
  obtain ⟨d, rfl⟩ : ∃ d, b = a + d := ⟨b - a, by omega⟩
  rw [List.take_add, cat_append, List.length_append]; omega
theorem cat_split (fs : List Kb) (n : Nat) : cat fs = cat (fs.take n) ++ cat (fs.drop n) := by rw [← cat_append, List.take_append_drop]
/-- What is left of frames' bytes that are cut off, behind the first n. -/
theorem cut_drop (fs : List Kb) (n at_ : Nat) : ((cat fs).take at_).drop (cat (fs.take n)).length = (cat (fs.drop n)).take (at_ - (cat (fs.take n)).length) := by
  rw [List.drop_take, cat_split fs n, List.drop_left' rfl]
theorem steps_cut {fs : List Kb} (h : ∀ f ∈ fs, okKb f) {at_ : Nat} : ∀ n, n ≤ fs.length → (cat (fs.take n)).length ≤ at_ → Steps ((cat fs).take at_) (fs.take n) (cat (fs.take n)).length := by
  intro n
  induction n with
  | zero => intro _ _; exact Steps.nil
  | succ n ih =>
    intro hn hat
    have hlt : n < fs.length := by omega
    have e : fs.take (n + 1) = fs.take n ++ [fs[n]] := by rw [List.take_succ_eq_append_getElem hlt]
    have hle := ends_mono fs (show n ≤ n + 1 by omega)
    have h1 := ih (by omega) (by omega)
    have hf := h fs[n] (List.getElem_mem hlt)
    have el : (cat (fs.take (n + 1))).length = (cat (fs.take n)).length + (bytesOf fs[n].1.toNat fs[n].2).length := by rw [e, cat_append, List.length_append, cat_one]
    have hd : ((cat fs).take at_).drop (cat (fs.take n)).length = bytesOf fs[n].1.toNat fs[n].2 ++ (cat (fs.drop (n + 1))).take (at_ - (cat (fs.take n)).length - (bytesOf fs[n].1.toNat fs[n].2).length) := by
      rw [cut_drop, List.drop_eq_getElem_cons hlt]
      rw [cat_cons, List.take_append, List.take_of_length_le (by omega)]
    have hg : getL (((cat fs).take at_).drop (cat (fs.take n)).length) = (fs[n].1.toNat, fs[n].2, fs[n].2.length + 9, 0) := by
      rw [hd]; exact getL_bytesOf (by have := hf.1; omega) (by have := hf.2.1; omega) (by have := hf.2.2; omega)
    have h2 := Steps.snoc h1 (by unfold errL; rw [hg])
    have ek : kb (((cat fs).take at_).drop (cat (fs.take n)).length) = fs[n] := by
      unfold kb; rw [hg]
      have : ((fs[n].1.toNat : Nat) : Int) = fs[n].1 := by have := hf.1; omega
      exact Prod.ext this rfl
    rw [ek, hg, ← e] at h2
    rw [el, bytesOf_length]
    exact h2
theorem short_cut {fs : List Kb} (h : ∀ f ∈ fs, okKb f) {at_ n : Nat} (hn : n ≤ fs.length) (hlt : n < fs.length → at_ < (cat (fs.take (n + 1))).length) :
    getL (((cat fs).take at_).drop (cat (fs.take n)).length) = (0, [], 0, 4) := by
  rw [cut_drop]
  rcases Nat.lt_or_ge n fs.length with hl | hl
  · have hat := hlt hl
    have e : fs.take (n + 1) = fs.take n ++ [fs[n]] := by rw [List.take_succ_eq_append_getElem hl]
    rw [e, cat_append, List.length_append, cat_one, bytesOf_length] at hat
    rw [List.drop_eq_getElem_cons hl]
    rw [cat_cons]
    have hf := h fs[n] (List.getElem_mem hl)
    exact getL_cut (by have := hf.1; omega) (by have := hf.2.1; omega) (by have := hf.2.2; omega) (by omega)
  · rw [List.drop_of_length_le hl]
    exact getL_short (by simp [cat])
theorem Steps.le {bs : List By} {l : List Kb} {i : Nat} (h : Steps bs l i) : i ≤ bs.length := by
  induction h with
  | nil => omega
  | snoc h1 he ih =>
    rename_i l i
    rcases getL_cases (bs.drop i) with ⟨hne, _⟩ | ⟨_, _, _, _, h9, _, hg⟩
    · exact absurd he hne
    · rw [hg]
      simp only [List.length_drop] at h9
      show i + (lenL (bs.drop i) + 9) ≤ _
      omega
theorem getL_pos {b : List By} (h : errL b = 0) : 9 ≤ (getL b).2.2.1 ∧ (getL b).2.2.1 ≤ b.length := by
  rcases getL_cases b with ⟨hne, _⟩ | ⟨_, _, _, _, h9, _, hg⟩
  · exact absurd h hne
  · rw [hg]; exact ⟨by show 9 ≤ lenL b + 9; omega, h9⟩
end Go.Proofs.YtinenekbdcbcnaaDoor.Fr
