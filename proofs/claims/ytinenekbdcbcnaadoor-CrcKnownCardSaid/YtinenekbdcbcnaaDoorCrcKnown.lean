/- The walk of the statement CrcKnown. -/
import Derived.Test.YtinenekbdcbcnaaDoorCrcTells
import Derived.Test.YtinenekbdcbcnaaDoorCrcLine
import Derived.Test.YtinenekbdcbcnaaDoorCrcBack
import Derived.Test.YtinenekbdcbcnaaDoorCrcBits
import Derived.Deep.RegionHeld3
namespace Go.Proofs.YtinenekbdcbcnaaDoor
open Go.RowKit

/-- Row hands back a row of n bytes of the call's own. -/
theorem row_any (n : Nat) (w : World) (hn : n ≤ 1099511627776) :
    Calls Tryd.prog 26 #[.int .i64 (n : Int)] w fun e w' => ∃ A c bs, e = .returned (.slice A n c) ∧ n ≤ c ∧ c ≤ 9223372036854775807 ∧ RB w' (· < w'.heap.size) A n bs ∧ Below w.heap.size w w' := by
  go_enter Tryd.func26, Tryd.ntmps26
  go_wp2
  go_loopw [3, 4] (fun v i wr => ∃ (k : Nat) (bs : List (BitVec 8)), k ≤ n ∧ i = .int .i64 k ∧ wr.ownsRow w.heap.size 5 1 v k (bytes bs) ∧ Below w.heap.size w wr) (fun _ i _ => n - (intOf i).toNat)
  case atStart => exact ⟨0, [], by omega, rfl, World.ownsRow_nil _ _ _ _, Below.refl _ _⟩
  case round =>
    obtain ⟨k, bs, hk, rfl, hown, hB⟩ := hrel
    by_cases hlt : k < n
    · obtain ⟨x, hx⟩ : ∃ x : BitVec 8, (x.toNat : Int) = (3 + 5 * (k : Int)) % 256 := ⟨BitVec.ofNat 8 (3 + 5 * k), by rw [BitVec.toNat_ofNat]; omega⟩
      have HX := Lib.hid hx
      clear hx
      go_wp2_with (at_builtin; refine wpList_app1 wr #[.int .u8 ((3 + 5 * (k : Int)) % 256)] rfl _ _ 23 rfl w.heap.size 5 (.int .u8 0) 1 1 Tryd.underlying23 infoU8 rfl (by decide) _ k _ hown rfl rfl rfl (one1 _ rfl) (by omega) (by omega) hB.size ?_; intro g cap w1 hown1 _ hb1 _ _)
      have R : w1.ownsRow w.heap.size 5 1 (.slice (some ⟨g, 0, none⟩) (k + 1) cap) (k + 1) (bytes (bs ++ [x])) := by
        rw [bytes_append]
        have e : bytes [x] = (#[Value.int .u8 ((3 + 5 * (k : Int)) % 256)] : Array Value).toList := by rw [← HX.out]; rfl
        rw [e]; exact hown1
      clear hown1
      have hB1 := hB.trans hb1
      clear hB hb1 hown
      go_wp2
      go_roundw
      case rel => exact ⟨k + 1, _, by omega, by go_num, R, hB1⟩
      case measure => simp [intOf]; omega
    · obtain rfl : k = n := by omega
      obtain ⟨A', c', rfl, h1, h2, _⟩ := own_form hown
      have hr : RB wr (· < wr.heap.size) A' k bs := (own_reads hown).more fun _ h => h.2
      clear hown
      go_wp2
      go_ret
      exact ⟨A', c', bs, rfl, h1, h2, hr, hB⟩

theorem one_byte (wr : World) (c : Nat) (hc : c < 256) : ∃ x : BitVec 8, RB (wr.alloc (.cells #[Value.int .u8 (c : Int)] 5)) (· < (wr.alloc (.cells #[Value.int .u8 (c : Int)] 5)).heap.size) (some ⟨wr.heap.size, 0, none⟩) 1 [x] := by
  have h := RB.new wr [BitVec.ofNat 8 c] 5 (0, 0)
  have e : (bytes [BitVec.ofNat 8 c]).toArray = #[Value.int .u8 (c : Int)] := by
    have : ((BitVec.ofNat 8 c).toNat : Int) = (c : Int) := by rw [BitVec.toNat_ofNat]; omega
    simp only [bytes, List.map_cons, List.map_nil, B8, this]
  rw [e] at h
  exact ⟨_, h.more fun i hi => by rw [hi]; simp⟩

theorem RI.three (W : World) (a b c : Int) (T : TypeId) (h : ∀ z ∈ [a, b, c], -9223372036854775808 ≤ z ∧ z ≤ 9223372036854775807) :
    RI (W.alloc (.cells #[.int .i64 a, .int .i64 b, .int .i64 c] T)) (· < (W.alloc (.cells #[.int .i64 a, .int .i64 b, .int .i64 c] T)).heap.size) (some ⟨W.heap.size, 0, none⟩) 3 [a, b, c] := by
  refine ⟨⟨rfl, fun _ => ⟨W.heap.size, 0, rfl, by simp, fun j u hu => ?_⟩⟩, h⟩
  rw [Nat.zero_add, World.cell?_alloc_at _ _ _ _ rfl]
  simpa using hu
theorem good_alloc {w W : World} (h : Below w.heap.size w W) (o : Obj) : Below w.heap.size w (W.alloc o) := h.alloc h.size o
def sumsL : List (BitVec 32) := [0, 1, 0x7FFFFFFF, 0x80000000, 0xEDB88320, 0xFFFFFFFF]

set_option maxHeartbeats 2000000 in
set_option maxRecDepth 100000 in
theorem knownLaw_walk (w : World) (ht : Tabs w) :
    Calls Tryd.prog 8 #[] w fun e w' => e = .returned (.bool true) ∧ Below w.heap.size w w' := by
  obtain ⟨w0, hw0⟩ : ∃ w0, w0 = w.alloc (.cells (sumsL.map fun x => Value.int .u32 (x.toNat : Int)).toArray 22) := ⟨_, rfl⟩
  have hk0 : Below w.heap.size w w0 := by rw [hw0]; exact (Below.refl _ _).alloc (Nat.le_refl _) _
  have hz0 : w0.heap.size = w.heap.size + 1 := by rw [hw0]; simp
  have hcs : ∀ i s, sumsL[i]? = some s → w0.cell? ⟨w.heap.size, i, none⟩ = some (.int .u32 (s.toNat : Int)) := by
    intro i s h
    rw [hw0, World.cell?_alloc_at _ _ _ _ rfl]
    simp [h]
  have htt : ∀ W, Below w0.heap.size w0 W → Tabs W := fun W h => (ht.below hk0 ht.size).below h (Nat.le_trans ht.size (by rw [hz0]; omega))
  have HT := Lib.hid htt
  clear htt
  have HZ := Lib.hid hz0
  have HC := Lib.hid hcs
  clear hz0 hcs
  go_enter Tryd.func8, Tryd.ntmps8
  go_wp2
  go_loopw [2] (fun i wr => ∃ k : Nat, k ≤ 6 ∧ i = .int .i64 k ∧ Below w0.heap.size w0 wr) (fun i _ => 6 - (intOf i).toNat)
  case atStart => exact ⟨0, by omega, rfl, by rw [hw0]; exact Below.refl _ _⟩
  case round =>
    clear hw0
    obtain ⟨i, hi, rfl, hB⟩ := hrel
    obtain ⟨wo, rfl⟩ : ∃ wo : World, wo = wr := ⟨_, rfl⟩
    by_cases hlt : i < 6
    · obtain ⟨s, hs⟩ : ∃ s, sumsL[i]? = some s := ⟨_, List.getElem?_eq_getElem (show i < sumsL.length from hlt)⟩
      obtain ⟨s', hs'⟩ : ∃ s', sumsL[5 - i]? = some s' := ⟨_, List.getElem?_eq_getElem (show 5 - i < sumsL.length from by show 5 - i < 6; omega)⟩
      have c1 : ∀ W, Below w0.heap.size w0 W → W.cell? ⟨w.heap.size, i, none⟩ = some (.int .u32 (s.toNat : Int)) := fun W h => (h.cell (p := ⟨w.heap.size, i, none⟩) (by show w.heap.size < _; rw [HZ.out]; omega)).trans (HC.out i s hs)
      have c2 : ∀ W, Below w0.heap.size w0 W → W.cell? ⟨w.heap.size, 5 - i, none⟩ = some (.int .u32 (s'.toNat : Int)) := fun W h => (h.cell (p := ⟨w.heap.size, 5 - i, none⟩) (by show w.heap.size < _; rw [HZ.out]; omega)).trans (HC.out (5 - i) s' hs')
      have hdi : decide ((i : Int) < 6) = true := by simp; omega
      have C1 := Lib.hid c1
      have C2 := Lib.hid c2
      clear c1 c2 hs hs'
      go_wp2
      go_loopw [3] (fun c wr => ∃ k : Nat, k ≤ 256 ∧ c = .int .i64 k ∧ Below w0.heap.size w0 wr) (fun c _ => 256 - (intOf c).toNat)
      case atStart => exact ⟨0, by omega, rfl, hB⟩
      case round =>
        clear hB
        obtain ⟨c, hc, rfl, hB⟩ := hrel
        by_cases hct : c < 256
        · have hcell := C1.out wr hB
          go_wp2_with fail
          obtain ⟨x, hx⟩ := one_byte wr c hct
          have hBa : Below w0.heap.size w0 (wr.alloc (.cells #[Value.int .u8 (c : Int)] 5)) := hB.alloc hB.size _
          refine (tells_walk s (some ⟨wr.heap.size, 0, none⟩) 1 1 [x] _ (HT.out _ hBa) hx (by omega) (by omega)).mono ?_
          rintro e w2 ⟨rfl, hB2⟩
          have hBb := next_below hBa hB2
          clear hB hBa hB2 hx hcell
          go_wp2
          go_roundw
          case rel => exact ⟨c + 1, by omega, by go_num, hBb⟩
          case measure => simp [intOf]; omega
        · have hdc : decide ((c : Int) < 256) = false := by simp; omega
          go_wp2
          go_loopw [4] (fun c wr => ∃ k : Nat, k ≤ 40 ∧ c = .int .i64 k ∧ Below w0.heap.size w0 wr) (fun c _ => 40 - (intOf c).toNat)
          case atStart => exact ⟨0, by omega, rfl, hB⟩
          case round =>
            clear hB
            obtain ⟨n, hn, rfl, hB⟩ := hrel
            by_cases hnt : n < 40
            · have hdn : decide ((n : Int) < 40) = true := by simp; omega
              obtain ⟨i0, hi0, hz0, hz1, hz2⟩ := info_parts infoU8
              have hib : i0.bytes * n ≤ 281474976710656 := by rw [hz2]; omega
              go_wp2_with (first
                | (at_make; refine wpList_make_full _ rfl (.tmp 32) (.tmp 32) 23 rfl w.heap.size 5 i0 (.int .u8 0) 1 Tryd.underlying23 hi0 hz0 hz1 .i64 .i64 _ _ n rfl rfl rfl rfl hib (by unfold maxLen; omega) (by have := hB.size; have := HZ.out; omega) ?_; intro w1 hown1 hg1)
                | (at_make; refine wpList_make_full w1 rfl (.tmp 34) (.tmp 34) 23 rfl w1.heap.size 5 i0 (.int .u8 0) 1 Tryd.underlying23 hi0 hz0 hz1 .i64 .i64 _ _ n rfl rfl rfl rfl hib (by unfold maxLen; omega) (Nat.le_refl _) ?_; intro w2 hown2 hg2))
              have hZ : RB w1 (· < w1.heap.size) (some ⟨wr.heap.size, 0, none⟩) n (List.replicate n 0#8) := by
                rw [zeros_eq] at hown1
                exact (own_reads hown1).more fun _ h => h.2
              have hB1 : Below w0.heap.size w0 w1 := hB.grown hg1 hB.size (by simp)
              clear hown1 hg1 hB
              rw [zeros_eq] at hown2
              have hB2 : Below w1.heap.size w1 w2 := (Below.refl _ _).grown hg2 (Nat.le_refl _) (by simp)
              clear hg2 hib hi0 hz0 hz1 hz2
              go_loopw [7] (fun i wr => ∃ (k : Nat) (ys : List (BitVec 8)), k ≤ n ∧ i = .int .i64 k ∧ wr.ownsRow w1.heap.size 5 1 (.slice (some ⟨w1.heap.size, 0, none⟩) n n) n (bytes ys) ∧ Below w1.heap.size w1 wr) (fun i _ => n - (intOf i).toNat)
              case atStart => exact ⟨0, _, by omega, rfl, hown2, hB2⟩
              case round =>
                clear hown2 hB2
                obtain ⟨k, ys, hk, rfl, hown, hBk⟩ := hrel
                by_cases hkn : k < n
                · have hlen : ys.length = n := by have := hown.1; rw [bytes_length] at this; omega
                  have hcell : wr.cell? ⟨w1.heap.size, k, none⟩ = some (B8 (ys.getD k 0)) := by
                    have := (own_reads hown).cell rfl (j := k) (u := B8 (ys.getD k 0)) (by rw [bytes_get, List.getElem?_eq_getElem (by omega)]; simp [List.getD, List.getElem?_eq_getElem (show k < ys.length by omega)])
                    rwa [Nat.zero_add] at this
                  generalize B8 (ys.getD k 0) = old at hcell
                  have hfro : wr.frozen? ⟨w1.heap.size, k, none⟩ = false := own_frozen hown _
                  have R1 : (wr.setCell ⟨w1.heap.size, k, none⟩ (.int .u8 255)).ownsRow w1.heap.size 5 1 (.slice (some ⟨w1.heap.size, 0, none⟩) n n) n (bytes (ys.set k 255)) := own_set hown 255#8 hkn
                  have R2 : Below w1.heap.size w1 (wr.setCell ⟨w1.heap.size, k, none⟩ (.int .u8 255)) := hBk.setCell (p := ⟨w1.heap.size, k, none⟩) (Nat.le_refl _) _
                  clear hlen
                  go_wp2
                  go_roundw
                  case rel => exact ⟨k + 1, _, by omega, by go_num, R1, R2⟩
                  case measure => simp [intOf]; omega
                · have hO : RB wr (· < wr.heap.size) (some ⟨w1.heap.size, 0, none⟩) n ys := (own_reads hown).more fun _ h => h.2
                  have hB2 : Below w0.heap.size w0 wr := next_below hB1 hBk
                  clear hown
                  have hD : ∀ W, Below wr.heap.size wr W → W.cell? ⟨w.heap.size, i, none⟩ = some (.int .u32 (s.toNat : Int)) ∧ W.cell? ⟨w.heap.size, 5 - i, none⟩ = some (.int .u32 (s'.toNat : Int)) :=
                    fun W h => ⟨C1.out W (next_below hB2 h), C2.out W (next_below hB2 h)⟩
                  have hT : ∀ W, Below wr.heap.size wr W → Tabs W := fun W h => HT.out W (next_below hB2 h)
                  have hzW : ∀ W, Below wr.heap.size wr W → RB W (· < W.heap.size) _ n (List.replicate n 0#8) := fun W h => (hZ.below (next_below hBk h)).more fun j hj => Nat.lt_of_lt_of_le hj (next_below hBk h).size
                  have hoW : ∀ W, Below wr.heap.size wr W → RB W (· < W.heap.size) _ n ys := fun W h => (hO.below h).more fun j hj => Nat.lt_of_lt_of_le hj h.size
                  have T1 := Lib.hid fun W (h : Below wr.heap.size wr W) => (tells_walk s _ n n _ W (hT W h) (hzW W h) (Nat.le_refl _) (by omega)).mono (R' := fun e w' => e = .returned (.bool true) ∧ Below wr.heap.size wr w') fun e w' h2 => ⟨h2.1, next_below h h2.2⟩
                  have T2 := Lib.hid fun W (h : Below wr.heap.size wr W) => (tells_walk s _ n n _ W (hT W h) (hoW W h) (Nat.le_refl _) (by omega)).mono (R' := fun e w' => e = .returned (.bool true) ∧ Below wr.heap.size wr w') fun e w' h2 => ⟨h2.1, next_below h h2.2⟩
                  have T3 := Lib.hid fun W (h : Below wr.heap.size wr W) B m d zs (hz : RI W (· < W.heap.size) B m zs) (hl : m ≤ d) (hm : d ≤ 9223372036854775807) => (cuts_walk s _ n n _ B m d zs W (hT W h) (hoW W h) (Nat.le_refl _) (by omega) hz hl hm).mono (R' := fun e w' => e = .returned (.bool true) ∧ Below wr.heap.size wr w') fun e w' h2 => ⟨h2.1, next_below h h2.2⟩
                  have T4 := Lib.hid fun W (h : Below wr.heap.size wr W) => (row_any n W (by omega)).mono (R' := fun e w' => ∃ A c bs, e = .returned (.slice A n c) ∧ n ≤ c ∧ c ≤ 9223372036854775807 ∧ RB w' (· < w'.heap.size) A n bs ∧ Below wr.heap.size wr w')
                    fun e w' ⟨A, c, bs, h1, h2, h3, h4, h5⟩ => ⟨A, c, bs, h1, h2, h3, h4, next_below h h5⟩
                  have T5 := Lib.hid fun W (h : Below wr.heap.size wr W) A3 c3 l (hl : RB W (· < W.heap.size) A3 n l) (hl3 : n ≤ c3) (hm3 : c3 ≤ 9223372036854775807) => (line_walk s _ n n _ _ n n _ A3 n c3 l W (hT W h) (hzW W h) (Nat.le_refl _) (by omega) (hoW W h) (Nat.le_refl _) (by omega) hl hl3 hm3).mono (R' := fun e w' => e = .returned (.bool true) ∧ Below wr.heap.size wr w') fun e w' h2 => ⟨h2.1, next_below h h2.2⟩
                  have T6 := Lib.hid fun W (h : Below wr.heap.size wr W) => (back_walk s s' _ _ n n n n _ _ W (hT W h) (hoW W h) (hzW W h) (Nat.le_refl _) (Nat.le_refl _) (by omega) (by omega)).mono (R' := fun e w' => e = .returned (.bool true) ∧ Below wr.heap.size wr w') fun e w' h2 => ⟨h2.1, next_below h h2.2⟩
                  have T7 := Lib.hid fun W (h : Below wr.heap.size wr W) => (bits_walk _ n n _ (7 * (n : Int)) s W (hT W h) (hoW W h) (Nat.le_refl _) (by omega) (by omega)).mono (R' := fun e w' => e = .returned (.bool true) ∧ Below wr.heap.size wr w') fun e w' h2 => ⟨h2.1, next_below h h2.2⟩
                  have G0 : Below wr.heap.size wr wr := Below.refl _ _
                  have hii0 : (0 : Int) ≤ (i : Int) := by omega
                  have hii1 : (i : Int) < 6 := by omega
                  obtain ⟨ii, hii⟩ : ∃ ii, ii = 5 - i := ⟨_, rfl⟩
                  have hi0 : (0 : Int) ≤ (ii : Int) := by omega
                  have hi2 : (ii : Int) < 6 := by omega
                  have hi3 : IntKind.i64.wrap (5 - (i : Int)) = (ii : Int) := by rw [hii]; exact (IntWalk.i64_in _ (by omega)).trans (by omega)
                  rw [← hii] at hD
                  have D := Lib.hid hD
                  clear hii
                  have hi5 : IntKind.i64.wrap ((n : Int) / 3) = (n : Int) / 3 := IntWalk.i64_in _ (by omega)
                  have hi6 : IntKind.i64.wrap ((n : Int) / 2) = (n : Int) / 2 := IntWalk.i64_in _ (by omega)
                  have hi4 : IntKind.i64.wrap (7 * (n : Int)) = 7 * (n : Int) := IntWalk.i64_in _ (by omega)
                  have HN := Lib.hid (show ∀ z ∈ [(n : Int) / 3, 0, (n : Int) / 2], -9223372036854775808 ≤ z ∧ z ≤ 9223372036854775807 by intro z hz; simp only [List.mem_cons, List.not_mem_nil, or_false] at hz; omega)
                  clear hT hzW hoW hD
                  go_wp2
                  simp only [List.append_eq, List.cons_append, List.nil_append]
                  go_region_held3 (fun w' => w'.cell? ⟨w.heap.size, i, none⟩ = some (.int .u32 (s.toNat : Int)) ∧ w'.cell? ⟨w.heap.size, ii, none⟩ = some (.int .u32 (s'.toNat : Int)))
                    (first | exact D.out _ (by assumption) | exact D.out _ (Below.drew (by assumption)) | exact D.out _ (good_alloc (by assumption) _))
                    (first
                      | (go_at_call 3; with_reducible refine Calls.mono (T1.out _ ?_) ?_; (first | assumption | exact Below.drew (by assumption) | exact good_alloc (by assumption) _); rintro e w' ⟨rfl, hG⟩)
                      | (go_at_call 3; with_reducible refine Calls.mono (T2.out _ ?_) ?_; (first | assumption | exact Below.drew (by assumption) | exact good_alloc (by assumption) _); rintro e w' ⟨rfl, hG⟩)
                      | (go_at_call 4; with_reducible refine Calls.mono (T3.out _ ?_ _ 3 3 [(n : Int) / 3, 0, (n : Int) / 2] ?_ ?_ ?_) ?_; (first | assumption | exact Below.drew (by assumption) | exact good_alloc (by assumption) _); (exact RI.three _ _ _ _ _ HN.out); (exact Nat.le_refl _); (exact (by decide)); rintro e w' ⟨rfl, hG⟩)
                      | (go_at_call 26; with_reducible refine Calls.mono (T4.out _ ?_) ?_; (first | assumption | exact Below.drew (by assumption) | exact good_alloc (by assumption) _); rintro e w' ⟨Ar, cr, br, rfl, hr1, hr2, hr3, hG⟩)
                      | (go_at_call 5; with_reducible refine Calls.mono (T5.out _ ?_ _ _ br hr3 hr1 hr2) ?_; (first | assumption | exact Below.drew (by assumption) | exact good_alloc (by assumption) _); rintro e w' ⟨rfl, hG⟩)
                      | (go_at_call 6; with_reducible refine Calls.mono (T6.out _ ?_) ?_; (first | assumption | exact Below.drew (by assumption) | exact good_alloc (by assumption) _); rintro e w' ⟨rfl, hG⟩)
                      | (go_at_call 7; with_reducible refine Calls.mono (T7.out _ ?_) ?_; (first | assumption | exact Below.drew (by assumption) | exact good_alloc (by assumption) _); rintro e w' ⟨rfl, hG⟩))
                  go_wp2
                  go_roundw
                  case rel => exact ⟨n + 1, by omega, by go_num, next_below hB2 hG⟩
                  case measure => simp [intOf]; omega
            · go_wp2
              go_roundw
              case rel => exact ⟨i + 1, by omega, by go_num, hB⟩
              case measure => simp [intOf]; omega
    · go_wp2_with fail
      refine (known_any _ (HT.out _ hB)).mono ?_
      rintro e w2 ⟨rfl, hB2⟩
      have hBb := next_below hB hB2
      clear hB hB2
      go_wp2
      go_ret
      exact ⟨rfl, hk0.trans (hBb.mono hk0.size)⟩
end Go.Proofs.YtinenekbdcbcnaaDoor
