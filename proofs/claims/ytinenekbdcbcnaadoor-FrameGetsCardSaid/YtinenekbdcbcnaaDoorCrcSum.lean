/- The contracts of crc.Sum and of what the statements of layer 2 ask beside: the chapter's sums. -/
import Derived.Test.YtinenekbdcbcnaaDoorCrcMore
import Derived.Lib.SlBytesConst
namespace Go.Proofs.YtinenekbdcbcnaaDoor
open Go.RowKit

theorem Tabs.below {w w' : World} {B : Nat} (h : Tabs w) (hb : Below B w w') (hB : 2 ≤ B) : Tabs w' := fun i hi =>
  ⟨(hb.cell (p := ⟨0, i, none⟩) (by show 0 < B; omega)).trans (h i hi).1, (hb.cell (p := ⟨1, i, none⟩) (by show 1 < B; omega)).trans (h i hi).2⟩
theorem Tabs.size {w : World} (h : Tabs w) : 2 ≤ w.heap.size := by
  have h1 := World.block_lt_of_cell? _ _ (h 0 (by decide)).1
  have h2 := World.block_lt_of_cell? _ _ (h 0 (by decide)).2
  simp at h1 h2
  omega
theorem Tabs.drewN {w : World} (h : Tabs w) (q : Nat) : Tabs (w.drewN q) := h
theorem Tabs.alloc {w : World} (h : Tabs w) (o : Obj) : Tabs (w.alloc o) := h.below ((Below.refl _ _).alloc (Nat.le_refl _) o) h.size

theorem sum_any (P : Nat → Prop) (A : Option Addr) (n c : Nat) (bs : List (BitVec 8)) (w : World) (hb : RB w P A n bs) (ht : Tabs w) (hn : n ≤ 9223372036854775807) :
    Calls Tryd.prog 18 #[.slice A n c] w fun e w' => e = .returned (.int .u32 ((CrcM.more 0#32 bs).toNat : Int)) ∧ ∃ q, w' = w.drewN q := by
  go_enter Tryd.func18, Tryd.ntmps18
  go_wp2_with fail
  refine (more_any 0#32 P A n c bs w hb ht hn).mono ?_
  rintro e w' ⟨rfl, q, rfl⟩
  go_wp2
  go_ret
  exact ⟨rfl, _, rfl⟩

theorem sum_is (v : Int) (P : Nat → Prop) (A : Option Addr) (n c : Nat) (bs : List (BitVec 8)) (w : World) (hb : RB w P A n bs) (ht : Tabs w) (hn : n ≤ 9223372036854775807)
    (hv : ((CrcM.more 0#32 bs).toNat : Int) = v) :
    Calls Tryd.prog 18 #[.slice A n c] w fun e w' => e = .returned (.int .u32 v) ∧ Below w.heap.size w w' :=
  (sum_any P A n c bs w hb ht hn).mono fun _ _ ⟨h, q, h2⟩ => ⟨by rw [← hv]; exact h, by rw [h2]; exact below_drewN (Below.refl _ _) q⟩
theorem more_is (u v : Int) (s : BitVec 32) (P : Nat → Prop) (A : Option Addr) (n c : Nat) (bs : List (BitVec 8)) (w : World) (hb : RB w P A n bs) (ht : Tabs w) (hn : n ≤ 9223372036854775807)
    (hu : (s.toNat : Int) = u) (hv : ((CrcM.more s bs).toNat : Int) = v) :
    Calls Tryd.prog 20 #[.int .u32 u, .slice A n c] w fun e w' => e = .returned (.int .u32 v) ∧ Below w.heap.size w w' := by
  rw [← hu, ← hv]
  exact (more_any s P A n c bs w hb ht hn).mono fun _ _ ⟨h, q, h2⟩ => ⟨h, by rw [h2]; exact below_drewN (Below.refl _ _) q⟩

/-- A new block of bytes reads as these. -/
theorem RB.new (w : World) (bs : List (BitVec 8)) (T : TypeId) (m : Nat × Nat) : RB (w.alloc (.cells (bytes bs).toArray T m)) (· = w.heap.size) (some ⟨w.heap.size, 0, none⟩) bs.length bs := by
  refine ⟨by rw [bytes_length, Nat.mul_one], fun _ => ⟨w.heap.size, 0, rfl, rfl, fun j u hu => ?_⟩⟩
  rw [Nat.zero_add, World.cell?_alloc_mark]
  simpa using hu

def dig9 : List (BitVec 8) := [49, 50, 51, 52, 53, 54, 55, 56, 57]
def dig4 : List (BitVec 8) := [49, 50, 51, 52]
def dig5 : List (BitVec 8) := [53, 54, 55, 56, 57]
theorem more_9 : ((CrcM.more 0#32 dig9).toNat : Int) = 3421780262 := by decide +kernel
theorem more_4 : ((CrcM.more 0#32 dig4).toNat : Int) = 2615402659 := by decide +kernel
theorem more_45 : ((CrcM.more (CrcM.more 0#32 dig4) dig5).toNat : Int) = 3421780262 := by decide +kernel

theorem known_any (w : World) (ht : Tabs w) : Calls Tryd.prog 16 #[] w fun e w' => e = .returned (.bool true) ∧ Below w.heap.size w w' := by
  have kc := fun (w : World) (C : Array Value) (n c : Nat) => Lib.run_convert_bytes_const (P := Tryd.prog) w 23 5 C n c Tryd.underlying23 Tryd.underlying5
  go_enter Tryd.func16, Tryd.ntmps16
  go_wp2_with fail
  refine (sum_is 3421780262 _ _ _ _ dig9 _ (RB.new w dig9 5 (9, 10)) (ht.alloc _) (by decide) more_9).mono ?_
  rintro e w1 ⟨rfl, hb1⟩
  have ht1 : Tabs w1 := (ht.alloc _).below hb1 (ht.alloc _).size
  have hB1 : Below w.heap.size w w1 := ((Below.refl _ _).alloc (Nat.le_refl _) _).trans (hb1.mono (by simp))
  clear hb1
  go_wp2_with fail
  refine (sum_is 2615402659 _ _ _ _ dig4 _ (RB.new w1 dig4 5 (4, 5)) (ht1.alloc _) (by decide) more_4).mono ?_
  rintro e w2 ⟨rfl, hb2⟩
  have ht2 : Tabs w2 := (ht1.alloc _).below hb2 (ht1.alloc _).size
  have hB2 : Below w.heap.size w w2 := (hB1.alloc hB1.size _).trans (hb2.mono (by have := hB1.size; simp; omega))
  clear hb2
  go_wp2_with fail
  refine (more_is 2615402659 3421780262 (CrcM.more 0#32 dig4) _ _ _ _ dig5 _ (RB.new w2 dig5 5 (5, 6)) (ht2.alloc _) (by decide) more_4 more_45).mono ?_
  rintro e w3 ⟨rfl, hb3⟩
  have ht3 : Tabs w3 := (ht2.alloc _).below hb3 (ht2.alloc _).size
  have hB3 : Below w.heap.size w w3 := (hB2.alloc hB2.size _).trans (hb3.mono (by have := hB2.size; simp; omega))
  clear hb3
  go_wp2_with fail
  refine (sum_is 0 (fun _ => False) _ _ _ [] _ (RB.nil _ _ _) ht3 (by decide) (by decide)).mono ?_
  rintro e w4 ⟨rfl, hb4⟩
  have hB4 : Below w.heap.size w w4 := hB3.trans (hb4.mono hB3.size)
  clear hb4
  go_wp2
  go_ret
  exact ⟨rfl, hB4⟩
end Go.Proofs.YtinenekbdcbcnaaDoor
