/- The walk of the statement PageKnown. -/
import Derived.Test.YtgmbfjlobnmhdaaTells18
import Derived.Test.YtgmbfjlobnmhdaaPages
import Derived.Test.YtgmbfjlobnmhdaaStays
import Derived.Deep.RegionHeld3
namespace Go.Proofs.Ytgmbfjlobnmhdaa
open Go.RowKit

def ends : List Int := [-9223372036854775808, -3, -2, -1, 0, 1, 2, 4, 5, 9, 10, 9223372036854775807]
theorem ends_i64 : ∀ z ∈ ends, I64 z := by
  intro z hz
  simp only [ends, List.mem_cons, List.not_mem_nil, or_false] at hz
  unfold I64
  omega
def endRow (i : Nat) : Rw := (ends.getD i 0, (i : Int), 1 + (i : Int))
def endRows (k : Nat) : List Rw := (List.range k).map endRow
theorem endRows_succ (k : Nat) : endRows (k + 1) = endRows k ++ [endRow k] := by simp [endRows, List.range_succ]
theorem endRows_ok : ∀ r ∈ endRows 12, RwOk r := by
  intro r hr
  simp only [endRows, List.mem_map, List.mem_range] at hr
  obtain ⟨i, hi, rfl⟩ := hr
  refine ⟨?_, ⟨?_, ?_⟩, ⟨?_, ?_⟩⟩
  · have e : (endRow i).1 = ends[i]'hi := by simp only [endRow, List.getD, List.getElem?_eq_getElem (show i < ends.length from hi)]; rfl
    rw [e]; exact ends_i64 _ (List.getElem_mem _)
  all_goals simp only [endRow]; omega
theorem i64_wrap (z : Int) : I64 (IntKind.i64.wrap z) := by
  unfold I64
  rw [IntKind.wrap_i64]
  omega

theorem zero64 : I64 0 := ⟨by decide, by decide⟩

theorem good_alloc {w W : World} (h : Below w.heap.size w W) (o : Obj) : Below w.heap.size w (W.alloc o) := h.alloc h.size o

set_option maxHeartbeats 2000000 in
set_option maxRecDepth 100000 in
theorem known18_walk (w : World) :
    Calls Try.prog 6 #[] w fun e w' => e = .returned (.bool true) ∧ Below w.heap.size w w' := by
  obtain ⟨w0, hw0⟩ : ∃ w0, w0 = w.alloc (.cells (ends.map (Value.int .i64)).toArray 3) := ⟨_, rfl⟩
  have hk0 : Below w.heap.size w w0 := by rw [hw0]; exact (Below.refl _ _).alloc (Nat.le_refl _) _
  have hz0 : w0.heap.size = w.heap.size + 1 := by rw [hw0]; simp
  have hcs : ∀ i z, ends[i]? = some z → w0.cell? ⟨w.heap.size, i, none⟩ = some (.int .i64 z) := by
    intro i z h
    rw [hw0, World.cell?_alloc_at _ _ _ _ rfl]
    simp [h]
  have hE : RI w0 (· < w0.heap.size) (some ⟨w.heap.size, 0, none⟩) 12 ends := by
    refine ⟨⟨rfl, fun _ => ⟨w.heap.size, 0, rfl, by rw [hz0]; exact Nat.lt_succ_self _, fun j u hu => ?_⟩⟩, ends_i64⟩
    rw [Nat.zero_add, hw0, World.cell?_alloc_at _ _ _ _ rfl]
    simpa using hu
  have HZ := Lib.hid hz0
  have HC := Lib.hid hcs
  clear hz0 hcs
  go_enter Try.func6, Try.ntmps6
  go_wp2
  go_loopw [2, 3] (fun v i wr => ∃ k : Nat, k ≤ 12 ∧ i = .int .i64 k ∧ wr.ownsRow w0.heap.size 34 3 v k (rcs (endRows k)) ∧ Below w0.heap.size w0 wr) (fun _ i _ => 12 - (intOf i).toNat)
  case atStart => exact ⟨0, by omega, rfl, World.ownsRow_nil _ _ _ _, by rw [hw0]; exact Below.refl _ _⟩
  case round =>
    clear hw0
    obtain ⟨k, hk, rfl, hown, hB⟩ := hrel
    by_cases hlt : k < 12
    · obtain ⟨z, hz⟩ : ∃ z, ends[k]? = some z := ⟨_, List.getElem?_eq_getElem (show k < ends.length from hlt)⟩
      have c1 : wr.cell? ⟨w.heap.size, k, none⟩ = some (.int .i64 z) := (hB.cell (p := ⟨w.heap.size, k, none⟩) (by show w.heap.size < _; rw [HZ.out]; omega)).trans (HC.out k z hz)
      have hr : endRow k = (z, (k : Int), 1 + (k : Int)) := by simp [endRow, List.getD, hz]
      have HR := Lib.hid hr
      clear hr hz
      have hdk : decide ((k : Int) < 12) = true := by simp; omega
      have hwk : IntKind.i64.wrap (1 + (k : Int)) = 1 + (k : Int) := IntWalk.i64_in _ (by omega)
      go_wp2_with (at_builtin; (refine wpList_app1 wr #[.int .i64 z, .int .i64 (k : Int), .int .i64 (1 + (k : Int))] rfl _ _ 22 rfl w0.heap.size 34 (.agg #[.int .i64 0, .int .i64 0, .int .i64 0]) 3 24 Try.underlying22 infoRow rfl (by decide) _ k _ hown rfl rfl rfl (rcs_one [(z, (k : Int), 1 + (k : Int))]) (by omega) (by omega) hB.size ?_); intro g cap w1 hown1 _ hb1 _ _)
      have R : w1.ownsRow w0.heap.size 34 3 (.slice (some ⟨g, 0, none⟩) (k + 1) cap) (k + 1) (rcs (endRows (k + 1))) := by
        rw [endRows_succ, rcs_append, HR.out]; exact hown1
      clear hown1
      have hB1 := hB.trans hb1
      clear hB hb1 hown c1 hdk hwk
      go_wp2
      go_roundw
      case rel => exact ⟨k + 1, by omega, by go_num, R, hB1⟩
      case measure => simp [intOf]; omega
    · obtain rfl : k = 12 := by omega
      rw [show ((12 : Nat) : Int) = 12 from rfl]
      obtain ⟨L, cl, rfl, hcl, hcl2, _⟩ := own_form hown
      have hL : RR wr (· < wr.heap.size) L 12 (endRows 12) := ⟨(own_reads hown).more fun _ h => h.2, endRows_ok⟩
      clear hown
      obtain ⟨l, hl⟩ : ∃ l, l = endRows 12 := ⟨_, rfl⟩
      rw [← hl] at hL
      clear hl
      obtain ⟨bL, oL, _, rfl, _, _, _, _, _, _⟩ := hL.cell (k := 0) (by decide)
      obtain ⟨w1, hw1⟩ : ∃ w1 : World, w1 = wr := ⟨_, rfl⟩
      subst hw1
      go_wp2
      go_loopw [4] (fun i wr => ∃ k : Nat, k ≤ 12 ∧ i = .int .i64 k ∧ Below w1.heap.size w1 wr) (fun i _ => 12 - (intOf i).toNat)
      case atStart => exact ⟨0, by omega, rfl, Below.refl _ _⟩
      case round =>
        obtain ⟨i, hi, rfl, hBi⟩ := hrel
        obtain ⟨wo, rfl⟩ : ∃ wo : World, wo = wr := ⟨_, rfl⟩
        by_cases hlt : i < 12
        · have hdi : decide ((i : Int) < 12) = true := by simp; omega
          go_wp2
          go_loopw [5] (fun i wr => ∃ k : Nat, k ≤ 12 ∧ i = .int .i64 k ∧ Below w1.heap.size w1 wr) (fun i _ => 12 - (intOf i).toNat)
          case atStart => exact ⟨0, by omega, rfl, hBi⟩
          case round =>
            clear hBi
            obtain ⟨k, hk, rfl, hBk⟩ := hrel
            by_cases hkt : k < 12
            · have hdk : decide ((k : Int) < 12) = true := by simp; omega
              obtain ⟨a, ha⟩ : ∃ z, ends[i]? = some z := ⟨_, List.getElem?_eq_getElem (show i < ends.length from hlt)⟩
              obtain ⟨b, hb⟩ : ∃ z, ends[k]? = some z := ⟨_, List.getElem?_eq_getElem (show k < ends.length from hkt)⟩
              have ha64 := ends_i64 a (List.mem_of_getElem? ha)
              have hb64 := ends_i64 b (List.mem_of_getElem? hb)
              have lower : ∀ W, Below wr.heap.size wr W → Below w0.heap.size w0 W := fun W h => hB.trans ((next_below hBk h).mono hB.size)
              have hD : ∀ W, Below wr.heap.size wr W → W.cell? ⟨w.heap.size, i, none⟩ = some (.int .i64 a) ∧ W.cell? ⟨w.heap.size, k, none⟩ = some (.int .i64 b) :=
                fun W h => ⟨((lower W h).cell (p := ⟨w.heap.size, i, none⟩) (by show w.heap.size < _; rw [HZ.out]; omega)).trans (HC.out i a ha), ((lower W h).cell (p := ⟨w.heap.size, k, none⟩) (by show w.heap.size < _; rw [HZ.out]; omega)).trans (HC.out k b hb)⟩
              have hLW : ∀ W, Below wr.heap.size wr W → RR W (· < W.heap.size) (some ⟨bL, oL, none⟩) 12 l := fun W h => (hL.below (next_below hBk h)).more fun j hj => Nat.lt_of_lt_of_le hj (next_below hBk h).size
              have hEW : ∀ W, Below wr.heap.size wr W → RI W (· < W.heap.size) (some ⟨w.heap.size, 0, none⟩) 12 ends := fun W h => ⟨Reads.more (hE.below (lower W h)).1 fun j hj => Nat.lt_of_lt_of_le hj (lower W h).size, hE.2⟩
              obtain ⟨b', hb'⟩ : ∃ z, IntKind.i64.wrap (b + 1) = z := ⟨_, rfl⟩
              have hb'64 : I64 b' := by rw [← hb']; exact i64_wrap _
              have T0 := Lib.hid fun W (h : Below wr.heap.size wr W) => (four_any W).mono (R' := fun e w' => ∃ g, e = .returned (.slice (some ⟨g, 0, none⟩) 4 4) ∧ RR w' (· < w'.heap.size) (some ⟨g, 0, none⟩) 4 four ∧ Below wr.heap.size wr w') fun e w' ⟨g, h1, h2, h3⟩ => ⟨g, h1, h2, next_below h h3⟩
              have T1 := Lib.hid fun W (h : Below wr.heap.size wr W) g (hg : RR W (· < W.heap.size) (some ⟨g, 0, none⟩) 4 four) => (tells18_walk _ 4 4 four a b W hg (Nat.le_refl _) (by omega) hb64).mono (R' := fun e w' => e = .returned (.bool true) ∧ Below wr.heap.size wr w') fun e w' h2 => ⟨h2.1, next_below h h2.2⟩
              have T2 := Lib.hid fun W (h : Below wr.heap.size wr W) => (tells18_walk _ i cl (l.take i) b a W ((hLW W h).take (by omega)) (by omega) hcl2 ha64).mono (R' := fun e w' => e = .returned (.bool true) ∧ Below wr.heap.size wr w') fun e w' h2 => ⟨h2.1, next_below h h2.2⟩
              have hLd : ∀ W, Below wr.heap.size wr W → RR W (· < W.heap.size) (some ⟨bL, oL + i * 3, none⟩) (12 - i) (l.drop i) := fun W h =>
                ⟨by have := Reads.drop (k := i) (hLW W h).1 (by omega) (some ⟨bL, oL + i * 3, none⟩) (fun _ => rfl); rwa [rcs_drop] at this, fun r hr => (hLW W h).2 r (List.mem_of_mem_drop hr)⟩
              have hEd : ∀ W, Below wr.heap.size wr W → RI W (· < W.heap.size) (some ⟨w.heap.size, k, none⟩) (12 - k) (ends.drop k) := fun W h =>
                ⟨by have := Reads.drop (k := k) (hEW W h).1 (by omega) (some ⟨w.heap.size, k, none⟩) (fun _ => by simp); rwa [Nat.mul_one, ← List.map_drop] at this, fun r hr => ends_i64 r (List.mem_of_mem_drop hr)⟩
              have T3 := Lib.hid fun W (h : Below wr.heap.size wr W) => (pages_walk _ (12 - i) (cl - i) (l.drop i) _ (12 - k) (12 - k) (ends.drop k) W (hLd W h) (hEd W h)).mono (R' := fun e w' => e = .returned (.bool true) ∧ Below wr.heap.size wr w') fun e w' h2 => ⟨h2.1, next_below h h2.2⟩
              have T4 := Lib.hid fun W (h : Below wr.heap.size wr W) => (stays_walk _ 12 cl l i k (b', 0, 0) W (hLW W h) ⟨by omega, by omega⟩ ⟨by omega, by omega⟩ ⟨hb'64, zero64, zero64⟩).mono (R' := fun e w' => e = .returned (.bool true) ∧ Below wr.heap.size wr w') fun e w' h2 => ⟨h2.1, next_below h h2.2⟩
              have G0 : Below wr.heap.size wr wr := Below.refl _ _
              have D := Lib.hid hD
              have hi0 : (0 : Int) ≤ (i : Int) := by omega
              have hi1 : (i : Int) < 12 := by omega
              have hk0 : (0 : Int) ≤ (k : Int) := by omega
              have hk1 : (k : Int) < 12 := by omega
              have hi2 : ¬ cl = i := by omega
              have hi3 : i ≤ cl := by omega
              have hk2 : ¬ 12 = k := by omega
              have hi4 : (i : Int) ≤ 12 := by omega
              have hk4 : (k : Int) ≤ 12 := by omega
              have hc4 : (12 : Int) ≤ (cl : Int) := by omega
              have hi5 : (i : Int) ≤ (cl : Int) := by omega
              clear hD hLd hEd hEW hLW lower ha hb
              go_wp2
              go_region_held3 (fun w' => w'.cell? ⟨w.heap.size, i, none⟩ = some (.int .i64 a) ∧ w'.cell? ⟨w.heap.size, k, none⟩ = some (.int .i64 b))
                (first | exact D.out _ (by assumption) | exact D.out _ (Below.drew (by assumption)) | exact D.out _ (good_alloc (by assumption) _))
                (first
                  | (go_at_call 20; with_reducible refine Calls.mono (T0.out _ ?_) ?_; (first | assumption | exact Below.drew (by assumption) | exact good_alloc (by assumption) _); rintro e w' ⟨g4, rfl, hF4, hG⟩)
                  | (go_at_call 3; with_reducible refine Calls.mono (T1.out _ ?_ _ hF4) ?_; (first | assumption | exact Below.drew (by assumption) | exact good_alloc (by assumption) _); rintro e w' ⟨rfl, hG⟩)
                  | (go_at_call 3; with_reducible refine Calls.mono (T2.out _ ?_) ?_; (first | assumption | exact Below.drew (by assumption) | exact good_alloc (by assumption) _); rintro e w' ⟨rfl, hG⟩)
                  | (go_at_call 4; with_reducible refine Calls.mono (T3.out _ ?_) ?_; (first | assumption | exact Below.drew (by assumption) | exact good_alloc (by assumption) _); rintro e w' ⟨rfl, hG⟩)
                  | (go_at_call 5; with_reducible refine Calls.mono (T4.out _ ?_) ?_; (first | assumption | exact Below.drew (by assumption) | exact good_alloc (by assumption) _); rintro e w' ⟨rfl, hG⟩))
              all_goals
                (go_wp2
                 go_roundw
                 case rel => exact ⟨k + 1, by omega, by go_num, next_below hBk hG⟩
                 case measure => simp [intOf]; omega)
            · go_wp2
              go_roundw
              case rel => exact ⟨i + 1, by omega, by go_num, hBk⟩
              case measure => simp [intOf]; omega
        · go_wp2_with fail
          refine (works_any _).mono ?_
          rintro e w2 ⟨rfl, hB2⟩
          have hBb := next_below hBi hB2
          go_wp2
          go_ret
          exact ⟨rfl, hk0.trans ((hB.trans (hBb.mono hB.size)).mono hk0.size)⟩
end Go.Proofs.Ytgmbfjlobnmhdaa
