/- Lists of frames, as they lie in memory; right, row, SameFrames, Scan. -/
import Derived.Test.YtinenekbdcbcnaaDoorFrameE
import Derived.Test.YtinenekbdcbcnaaDoorFrameM4
namespace Go.Proofs.YtinenekbdcbcnaaDoor
open Go.RowKit

/-- A frame as it lies in a list: its kind, where its body lies, the body. -/
structure Fm where
  kind : Int
  A : Option Addr
  n : Nat
  c : Nat
  body : List (BitVec 8)
def fc (r : Fm) : List Value := [.int .i64 r.kind, .slice r.A r.n r.c]
def fcs (l : List Fm) : List Value := l.flatMap fc
def fkey (r : Fm) : Fr.Kb := (r.kind, r.body)
theorem fcs_append (a b : List Fm) : fcs (a ++ b) = fcs a ++ fcs b := by simp [fcs]
theorem fcs_cons (r : Fm) (l : List Fm) : fcs (r :: l) = fc r ++ fcs l := by simp only [fcs, List.flatMap_cons]
theorem fcs_length (l : List Fm) : (fcs l).length = l.length * 2 := by
  induction l with
  | nil => rfl
  | cons r l ih => rw [fcs_cons, List.length_append, ih]; simp [fc]; omega
theorem fcs_get (l : List Fm) (k j : Nat) (r : Fm) (h : l[k]? = some r) (hj : j < 2) : (fcs l)[k * 2 + j]? = (fc r)[j]? := by
  induction l generalizing k with
  | nil => simp at h
  | cons a l ih =>
    rw [fcs_cons]
    rcases k with _ | k
    · simp at h; subst h
      rw [List.getElem?_append_left (by simp [fc]; omega)]; simp
    · rw [List.getElem?_append_right (by simp [fc]; omega)]
      rw [show (k + 1) * 2 + j - (fc a).length = k * 2 + j from by simp [fc]; omega]
      exact ih k (by simpa using h)
theorem fcs_take (l : List Fm) (k : Nat) : (fcs l).take (k * 2) = fcs (l.take k) := by
  induction l generalizing k with
  | nil => simp [fcs]
  | cons a l ih =>
    rcases k with _ | k
    · simp [fcs]
    · rw [fcs_cons, List.take_succ_cons, fcs_cons, List.take_append, List.take_of_length_le (by simp [fc]; omega), show (k + 1) * 2 - (fc a).length = k * 2 from by simp [fc]; omega, ih]
theorem fcs_one (l : List Fm) : ∀ u ∈ fcs l, u.oneCell' = true := by
  intro u hu
  simp only [fcs, List.mem_flatMap] at hu
  obtain ⟨r, _, hr⟩ := hu
  simp [fc] at hr
  rcases hr with rfl | rfl <;> rfl
theorem infoFrame : (Tryd.prog.info? 48).map (fun i => (i.zero, i.size, i.bytes)) = some (some (.agg #[.int .i64 0, .slice none 0 0]), 2, 32) := by kernel_rfl
theorem infoInt : (Tryd.prog.info? 3).map (fun i => (i.zero, i.size, i.bytes)) = some (some (.int .i64 0), 1, 8) := by kernel_rfl

/-- A slice reads as frames. -/
def RF (w : World) (P : Nat → Prop) (A : Option Addr) (n : Nat) (l : List Fm) : Prop := Reads w P 2 A n (fcs l)
/-- The bodies of frames read as they say. -/
def Bods (w : World) (l : List Fm) : Prop := ∀ r ∈ l, RB w (· < w.heap.size) r.A r.n r.body ∧ r.n ≤ r.c ∧ r.c ≤ 9223372036854775807
theorem Bods.below {w w' : World} {l : List Fm} (h : Bods w l) (hb : Below w.heap.size w w') : Bods w' l := fun r hr =>
  ⟨((h r hr).1.below hb).more fun i hi => Nat.lt_of_lt_of_le hi hb.size, (h r hr).2⟩
section
variable {w w' : World} {P Q : Nat → Prop} {n : Nat} {A : Option Addr} {l : List Fm}
theorem RF.len (h : RF w P A n l) : l.length = n := by have := h.1; rw [fcs_length] at this; omega
theorem RF.below {B : Nat} (h : RF w (· < B) A n l) (hb : Below B w w') : RF w' (· < B) A n l := Reads.below h hb
theorem RF.more (h : RF w P A n l) (hQ : ∀ i, P i → Q i) : RF w Q A n l := Reads.more h hQ
theorem RF.take (h : RF w P A n l) {k : Nat} (hk : k ≤ n) : RF w P A k (l.take k) := by
  have := Reads.take h hk
  rwa [fcs_take] at this
theorem RF.cell (h : RF w P A n l) {k : Nat} (hk : k < n) : ∃ b off r, A = some ⟨b, off, none⟩ ∧ P b ∧ l[k]? = some r ∧
    w.cell? ⟨b, off + k * 2, none⟩ = some (.int .i64 r.kind) ∧ w.cell? ⟨b, off + k * 2 + 1, none⟩ = some (.slice r.A r.n r.c) := by
  obtain ⟨b, off, e, hb, hc⟩ := h.2 (by omega)
  have hl : k < l.length := by rw [h.len]; exact hk
  have hg := List.getElem?_eq_getElem hl
  have c : ∀ j u, j < 2 → (fc l[k])[j]? = some u → w.cell? ⟨b, off + k * 2 + j, none⟩ = some u := fun j u hj hu => by
    have := hc (k * 2 + j) u (by rw [fcs_get l k j _ hg hj]; exact hu)
    rwa [← Nat.add_assoc] at this
  exact ⟨b, off, l[k], e, hb, hg, c 0 _ (by decide) rfl, c 1 _ (by decide) rfl⟩
end
def goodF (r : Fm) : Prop := 1 ≤ r.kind ∧ r.kind ≤ 255 ∧ r.n ≤ 500

set_option maxHeartbeats 1600000 in
set_option maxRecDepth 100000 in
theorem right_any (A : Option Addr) (n c : Nat) (l : List Fm) (w : World) (hf : RF w (· < w.heap.size) A n l) (hn : n ≤ 9223372036854775807) :
    Calls Tryd.prog 27 #[.slice A n c] w fun e w' => ∃ v fs, e = .returned v ∧ w'.ownsRow w.heap.size 48 2 v fs.length (fcs fs) ∧ fs.length ≤ 20 ∧ (∀ r ∈ fs, r ∈ l ∧ goodF r) ∧ Below w.heap.size w w' := by
  go_enter Tryd.func27, Tryd.ntmps27
  go_wp2
  go_loopw [3, 4] (fun v i wr => ∃ (k : Nat) (fs : List Fm), k ≤ n ∧ i = .int .i64 k ∧ wr.ownsRow w.heap.size 48 2 v fs.length (fcs fs) ∧ fs.length ≤ 20 ∧ (∀ r ∈ fs, r ∈ l ∧ goodF r) ∧ Below w.heap.size w wr) (fun _ i _ => n - (intOf i).toNat)
  case atStart => exact ⟨0, [], by omega, rfl, World.ownsRow_nil _ _ _ _, by simp, fun r hr => (by cases hr), Below.refl _ _⟩
  case round =>
    obtain ⟨k, fs, hk, rfl, hown, h20, hgood, hB⟩ := hrel
    obtain ⟨X, cx, rfl, hcx, hcx2, _⟩ := own_form hown
    by_cases hlt : k < n
    · have dk : decide ((k : Int) < (n : Int)) = true := by simp; omega
      by_cases hl20 : fs.length < 20
      · have dl : decide ((fs.length : Int) < 20) = true := by simp; omega
        obtain ⟨b, off, r, rfl, hb, hr, h0, h1⟩ := (hf.below hB).cell hlt
        have hmem : r ∈ l := List.mem_of_getElem? hr
        have hsz := hB.size
        obtain ⟨M, hM⟩ : ∃ M, M = fs.length := ⟨_, rfl⟩
        rw [← hM] at hown hcx h20 hl20 dl ⊢
        have HM := Lib.hid hM
        clear hM hr
        by_cases g1 : 1 ≤ r.kind
        · have e1 : decide (1 ≤ r.kind) = true := by simp; omega
          by_cases g2 : r.kind ≤ 255
          · have e2 : decide (r.kind ≤ 255) = true := by simp; omega
            by_cases g3 : r.n ≤ 500
            · have e3 : decide ((r.n : Int) ≤ 500) = true := by simp; omega
              go_wp2_with (at_builtin; refine wpList_app1 wr #[.int .i64 r.kind, .slice r.A r.n r.c] rfl _ _ 40 rfl w.heap.size 48 (.agg #[.int .i64 0, .slice none 0 0]) 2 32 Tryd.underlying40 infoFrame rfl (by decide) _ M _ hown rfl rfl rfl (fcs_one [r]) (by omega) (by omega) hsz ?_; intro g cap w1 hown1 _ hb1 _ _)
              have R : w1.ownsRow w.heap.size 48 2 (.slice (some ⟨g, 0, none⟩) (M + 1) cap) (fs ++ [r]).length (fcs (fs ++ [r])) := by
                rw [fcs_append, List.length_append, ← HM.out]; exact hown1
              have hg : ∀ x ∈ fs ++ [r], x ∈ l ∧ goodF x := by
                intro x hx
                rcases List.mem_append.1 hx with h | h
                · exact hgood x h
                · simp at h; subst h; exact ⟨hmem, g1, g2, g3⟩
              have hB1 := hB.trans hb1
              clear hown1 hown hb1 hB h0 h1
              go_wp2
              go_roundw
              case rel => exact ⟨k + 1, fs ++ [r], by omega, by go_num, R, by rw [List.length_append, ← HM.out]; simp; omega, hg, hB1⟩
              case measure => simp [intOf]; omega
            · have e3 : decide ((r.n : Int) ≤ 500) = false := by simp; omega
              go_wp2
              go_roundw
              case rel => exact ⟨k + 1, fs, by omega, by go_num, by rw [← HM.out]; exact hown, by rw [← HM.out]; exact h20, hgood, hB⟩
              case measure => simp [intOf]; omega
          · have e2 : decide (r.kind ≤ 255) = false := by simp; omega
            go_wp2
            go_roundw
            case rel => exact ⟨k + 1, fs, by omega, by go_num, by rw [← HM.out]; exact hown, by rw [← HM.out]; exact h20, hgood, hB⟩
            case measure => simp [intOf]; omega
        · have e1 : decide (1 ≤ r.kind) = false := by simp; omega
          go_wp2
          go_roundw
          case rel => exact ⟨k + 1, fs, by omega, by go_num, by rw [← HM.out]; exact hown, by rw [← HM.out]; exact h20, hgood, hB⟩
          case measure => simp [intOf]; omega
      · have dl : decide ((fs.length : Int) < 20) = false := by simp; omega
        go_wp2
        go_ret
        exact ⟨_, fs, rfl, hown, h20, hgood, hB⟩
    · have dk : decide ((k : Int) < (n : Int)) = false := by simp; omega
      go_wp2
      go_ret
      exact ⟨_, fs, rfl, hown, h20, hgood, hB⟩
end Go.Proofs.YtinenekbdcbcnaaDoor
