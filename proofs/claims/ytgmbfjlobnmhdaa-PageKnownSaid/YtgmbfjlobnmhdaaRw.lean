/- Rows of three numbers, as they lie in memory; the contracts of what the statements share on rows. -/
import Derived.Test.YtgmbfjlobnmhdaaWords
import Derived.Test.YtgmbfjlobnmhdaaRows
import Derived.WalkSpells
import Derived.WalkLawsBesides
import Derived.Laws.StructEq
namespace Go.Proofs.Ytgmbfjlobnmhdaa
open Go.RowKit

/-- A row: its group, its value, its count. -/
abbrev Rw := Int × Int × Int
def rc (r : Rw) : List Value := [.int .i64 r.1, .int .i64 r.2.1, .int .i64 r.2.2]
def rv (r : Rw) : Value := .agg #[.int .i64 r.1, .int .i64 r.2.1, .int .i64 r.2.2]
def rcs (l : List Rw) : List Value := l.flatMap rc
theorem rcs_append (a b : List Rw) : rcs (a ++ b) = rcs a ++ rcs b := by simp [rcs]
theorem rcs_length (l : List Rw) : (rcs l).length = l.length * 3 := by
  induction l with
  | nil => rfl
  | cons r l ih => simp only [rcs, List.flatMap_cons, List.length_append, List.length_cons] at ih ⊢; rw [ih]; simp [rc]; omega
theorem rcs_get (l : List Rw) (k j : Nat) (r : Rw) (h : l[k]? = some r) (hj : j < 3) : (rcs l)[k * 3 + j]? = (rc r)[j]? := by
  induction l generalizing k with
  | nil => simp at h
  | cons a l ih =>
    have e : rcs (a :: l) = rc a ++ rcs l := rfl
    rw [e]
    rcases k with _ | k
    · simp at h; subst h
      rw [List.getElem?_append_left (by simp [rc]; omega)]; simp
    · rw [List.getElem?_append_right (by simp [rc]; omega)]
      rw [show (k + 1) * 3 + j - (rc a).length = k * 3 + j from by simp [rc]; omega]
      exact ih k (by simpa using h)
theorem rcs_take (l : List Rw) (k : Nat) : (rcs l).take (k * 3) = rcs (l.take k) := by
  induction l generalizing k with
  | nil => simp [rcs]
  | cons a l ih =>
    rcases k with _ | k
    · simp [rcs]
    · have e : rcs (a :: l) = rc a ++ rcs l := rfl
      have e2 : rcs ((a :: l).take (k + 1)) = rc a ++ rcs (l.take k) := rfl
      rw [e, e2, List.take_append, List.take_of_length_le (by simp [rc]; omega), show (k + 1) * 3 - (rc a).length = k * 3 from by simp [rc]; omega, ih]
theorem rcs_drop (l : List Rw) (k : Nat) : (rcs l).drop (k * 3) = rcs (l.drop k) := by
  induction l generalizing k with
  | nil => simp [rcs]
  | cons a l ih =>
    rcases k with _ | k
    · simp [rcs]
    · have e : rcs (a :: l) = rc a ++ rcs l := rfl
      rw [e, List.drop_succ_cons, List.drop_append, List.drop_of_length_le (by simp [rc]; omega), show (k + 1) * 3 - (rc a).length = k * 3 from by simp [rc]; omega, ih]; rfl
theorem rcs_one (l : List Rw) : ∀ u ∈ rcs l, u.oneCell' = true := by
  intro u hu
  simp only [rcs, List.mem_flatMap] at hu
  obtain ⟨r, _, hr⟩ := hu
  simp [rc] at hr
  rcases hr with rfl | rfl | rfl <;> rfl

def I64 (z : Int) : Prop := -9223372036854775808 ≤ z ∧ z ≤ 9223372036854775807
def RwOk (r : Rw) : Prop := I64 r.1 ∧ I64 r.2.1 ∧ I64 r.2.2
/-- A slice reads as rows. -/
def RR (w : World) (P : Nat → Prop) (A : Option Addr) (n : Nat) (l : List Rw) : Prop := Reads w P 3 A n (rcs l) ∧ ∀ r ∈ l, RwOk r
section
variable {w w' : World} {P Q : Nat → Prop} {n : Nat} {A : Option Addr} {l : List Rw}
theorem RR.len (h : RR w P A n l) : l.length = n := by have := h.1.1; rw [rcs_length] at this; omega
theorem RR.keep (h : RR w P A n l) (hk : Same P w w') : RR w' P A n l := ⟨Reads.keep h.1 hk, h.2⟩
theorem RR.below {B : Nat} (h : RR w (· < B) A n l) (hb : Below B w w') : RR w' (· < B) A n l := ⟨Reads.below h.1 hb, h.2⟩
theorem RR.more (h : RR w P A n l) (hQ : ∀ i, P i → Q i) : RR w Q A n l := ⟨Reads.more h.1 hQ, h.2⟩
theorem RR.nil (w : World) (P : Nat → Prop) (A : Option Addr) : RR w P A 0 [] := ⟨Reads.zero, fun _ h => by cases h⟩
theorem RR.cell (h : RR w P A n l) {k : Nat} (hk : k < n) : ∃ b off r, A = some ⟨b, off, none⟩ ∧ P b ∧ l[k]? = some r ∧ RwOk r ∧
    w.cell? ⟨b, off + k * 3, none⟩ = some (.int .i64 r.1) ∧ w.cell? ⟨b, off + k * 3 + 1, none⟩ = some (.int .i64 r.2.1) ∧ w.cell? ⟨b, off + k * 3 + 2, none⟩ = some (.int .i64 r.2.2) := by
  obtain ⟨b, off, e, hb, hc⟩ := h.1.2 (by omega)
  have hl : k < l.length := by rw [h.len]; exact hk
  have hg := List.getElem?_eq_getElem hl
  have c : ∀ j u, j < 3 → (rc l[k])[j]? = some u → w.cell? ⟨b, off + k * 3 + j, none⟩ = some u := fun j u hj hu => by
    have := hc (k * 3 + j) u (by rw [rcs_get l k j _ hg hj]; exact hu)
    rwa [← Nat.add_assoc] at this
  exact ⟨b, off, l[k], e, hb, hg, h.2 _ (List.getElem_mem hl), c 0 _ (by decide) rfl, c 1 _ (by decide) rfl, c 2 _ (by decide) rfl⟩
theorem RR.take (h : RR w P A n l) {k : Nat} (hk : k ≤ n) : RR w P A k (l.take k) := by
  refine ⟨?_, fun r hr => h.2 r (List.mem_of_mem_take hr)⟩
  have := Reads.take h.1 hk
  rwa [rcs_take] at this
theorem RR.cut {cap : Nat} (h : RR w P A n l) {k : Nat} (hk : k ≤ n) (hc : n ≤ cap) : RR w P (if cap = k then A else A.map (·.add (k * 3))) (n - k) (l.drop k) := by
  refine ⟨?_, fun r hr => h.2 r (List.mem_of_mem_drop hr)⟩
  by_cases h0 : k = n
  · subst h0
    rw [Nat.sub_self, List.drop_of_length_le (Nat.le_of_eq h.len)]
    exact Reads.zero
  · rw [if_neg (by omega)]
    obtain ⟨b, off, e, _⟩ := h.1.2 (by omega)
    subst e
    have := Reads.drop (k := k) h.1 hk (some ⟨b, off + k * 3, none⟩) (fun _ => rfl)
    rw [rcs_drop] at this
    have e : (some ⟨b, off, none⟩ : Option Addr).map (·.add (k * 3)) = some ⟨b, off + k * 3, none⟩ := by
      show some ((⟨b, off, none⟩ : Addr).add (k * 3)) = _
      congr 1
      unfold Addr.add; split <;> simp_all
    rw [e]; exact this
end

theorem infoRow : (Try.prog.info? 34).map (fun i => (i.zero, i.size, i.bytes)) = some (some (.agg #[.int .i64 0, .int .i64 0, .int .i64 0]), 3, 24) := by kernel_rfl

theorem equalRow (x y : Rw) (w : World) : (Op.equalIn 10000 34 (.agg #[.int .i64 x.1, .int .i64 x.2.1, .int .i64 x.2.2]) (.agg #[.int .i64 y.1, .int .i64 y.2.1, .int .i64 y.2.2])).run Try.prog w = .ok (decide (x = y)) w := by
  have u3 := Try.underlying3
  have a3 := Try.isAgg3
  have z3 := Try.sizeOf3
  have hS : Try.prog.underlying 34 = some (.struct (Try.prog.fieldsOf 34)) := by kernel_rfl
  have hp : Try.prog.stoodInHeld 34 = false := by kernel_rfl
  rw [show (10000 : Nat) = 9999 + 1 from rfl, run_equalIn_agg w 9999 34 _ _ hS hp]
  simp only [Program.fieldsOf, Try.underlying34]
  go_simp
  obtain ⟨x1, x2, x3⟩ := x
  obtain ⟨y1, y2, y3⟩ := y
  by_cases h1 : x1 = y1 <;> by_cases h2 : x2 = y2 <;> by_cases h3 : x3 = y3 <;> simp [h1, h2, h3]

set_option maxHeartbeats 400000 in
theorem copyRows_any (P : Nat → Prop) (A : Option Addr) (n c : Nat) (l : List Rw) (w : World) (hb : RR w P A n l) (hP : ∀ i, P i → i < w.heap.size) (hn : n ≤ 1099511627776) :
    Calls Try.prog 19 #[.slice A n c] w fun e w' => ∃ v, e = .returned v ∧ w'.ownsRow w.heap.size 34 3 v n (rcs l) ∧ Below w.heap.size w w' := by
  go_enter Try.func19, Try.ntmps19
  go_wp2
  go_loopw [3, 4] (fun v i wr => ∃ k : Nat, k ≤ n ∧ i = .int .i64 k ∧ wr.ownsRow w.heap.size 34 3 v k (rcs (l.take k)) ∧ Below w.heap.size w wr) (fun _ i _ => n - (intOf i).toNat)
  case atStart => exact ⟨0, by omega, rfl, World.ownsRow_nil _ _ _ _, Below.refl _ _⟩
  case round =>
    obtain ⟨k, hk, rfl, hown, hB⟩ := hrel
    by_cases hlt : k < n
    · obtain ⟨b, off, r, rfl, hPb, hx, hr, hc0, hc1, hc2⟩ := hb.cell hlt
      have hd0 : wr.cell? ⟨b, off + k * 3, none⟩ = some (.int .i64 r.1) := (hB.cell (p := ⟨b, _, none⟩) (hP b hPb)).trans hc0
      have hd1 : wr.cell? ⟨b, off + k * 3 + 1, none⟩ = some (.int .i64 r.2.1) := (hB.cell (p := ⟨b, _, none⟩) (hP b hPb)).trans hc1
      have hd2 : wr.cell? ⟨b, off + k * 3 + 2, none⟩ = some (.int .i64 r.2.2) := (hB.cell (p := ⟨b, _, none⟩) (hP b hPb)).trans hc2
      clear hc0 hc1 hc2
      have HX := Lib.hid hx
      clear hx
      go_wp2_with (at_builtin; (refine wpList_app1 wr #[.int .i64 r.1, .int .i64 r.2.1, .int .i64 r.2.2] rfl _ _ 22 rfl w.heap.size 34 (.agg #[.int .i64 0, .int .i64 0, .int .i64 0]) 3 24 Try.underlying22 infoRow rfl (by decide) _ k _ hown rfl rfl rfl (rcs_one [r]) (by omega) (by omega) hB.size ?_); intro g cap w1 hown1 _ hb1 _ _)
      have R : w1.ownsRow w.heap.size 34 3 (.slice (some ⟨g, 0, none⟩) (k + 1) cap) (k + 1) (rcs (l.take (k + 1))) := by
        rw [take_succ_get l k r HX.out, rcs_append]; exact hown1
      clear hown1
      have hB1 := hB.trans hb1
      clear hB hb1 hown hd0 hd1 hd2
      go_wp2
      go_roundw
      case rel => exact ⟨k + 1, by omega, by go_num, R, hB1⟩
      case measure => simp [intOf]; omega
    · obtain rfl : k = n := by omega
      have e : l.take k = l := List.take_of_length_le (Nat.le_of_eq hb.len)
      rw [e] at hown
      clear e
      go_wp2
      go_ret
      exact ⟨_, rfl, hown, hB⟩

set_option maxHeartbeats 800000 in
theorem sameRows_any (P Q : Nat → Prop) (A : Option Addr) (n c : Nat) (xs : List Rw) (B : Option Addr) (m d : Nat) (ys : List Rw) (w : World) (ha : RR w P A n xs) (hb : RR w Q B m ys)
    (hn : n ≤ 1099511627776) :
    Calls Try.prog 15 #[.slice A n c, .slice B m d] w fun e w' => e = .returned (.bool (decide (xs = ys))) ∧ ∃ q, w' = w.drewN q := by
  by_cases hnm : n = m
  · subst hnm
    go_enter Try.func15, Try.ntmps15
    go_wp2
    go_loopw [5] (fun i wr => ∃ k q : Nat, k ≤ n ∧ i = .int .i64 k ∧ wr = w.drewN q ∧ xs.take k = ys.take k) (fun i _ => n - (intOf i).toNat)
    case atStart => exact ⟨0, 0, by omega, rfl, rfl, rfl⟩
    case round =>
      obtain ⟨k, q, hk, rfl, rfl, he⟩ := hrel
      have HE := Lib.hid he
      clear he
      by_cases hlt : k < n
      · obtain ⟨b1, o1, x, rfl, _, hx, _, hc0, hc1, hc2⟩ := ha.cell hlt
        obtain ⟨b2, o2, y, rfl, _, hy, _, hd0, hd1, hd2⟩ := hb.cell hlt
        have heq := equalRow x y
        by_cases hxy : x = y
        · have hdec : decide (x = y) = true := by simpa using hxy
          rw [hdec] at heq
          have hstep : xs.take (k + 1) = ys.take (k + 1) := by rw [take_succ_get xs k x hx, take_succ_get ys k y hy, HE.out, hxy]
          have HS := Lib.hid hstep
          clear hstep hx hy hxy hdec
          go_wp2
          go_quiet (fail)
          go_wp2
          go_roundw
          case rel => exact ⟨k + 1, _, by omega, by go_num, rfl, HS.out⟩
          case measure => simp [intOf]; omega
        · have hdec : decide (x = y) = false := by simpa using hxy
          rw [hdec] at heq
          have hfin : decide (xs = ys) = false := by
            rw [decide_eq_false_iff_not]; rintro rfl; rw [hx] at hy; injection hy with hy; exact hxy hy
          have HF := Lib.hid hfin
          clear hfin hx hy hxy hdec
          go_wp2
          go_quiet (fail)
          go_wp2
          go_ret
          exact ⟨by rw [HF.out]; rfl, _, World.drewN_drewN _ _ _⟩
      · have hfin : decide (xs = ys) = true := by
          rw [decide_eq_true_eq]
          have h := HE.out
          rwa [List.take_of_length_le (by rw [ha.len]; omega), List.take_of_length_le (by rw [hb.len]; omega)] at h
        have HF := Lib.hid hfin
        clear hfin
        go_wp2
        go_ret
        exact ⟨by rw [HF.out]; rfl, _, rfl⟩
  · have hfin : decide (xs = ys) = false := by
      rw [decide_eq_false_iff_not]; rintro rfl; exact hnm (ha.len.symm.trans hb.len)
    have hne : ((n : Int) != (m : Int)) = true := by rw [bne_iff_ne]; omega
    have HF := Lib.hid hfin
    clear hfin
    go_enter Try.func15, Try.ntmps15
    go_wp2
    go_ret
    exact ⟨by rw [HF.out]; rfl, 0, rfl⟩
end Go.Proofs.Ytgmbfjlobnmhdaa
