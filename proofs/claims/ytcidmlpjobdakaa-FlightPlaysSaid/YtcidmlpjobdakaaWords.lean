/- Words of memory: a slice that reads as a list, of whatever elements; bytes. No program in sight but for the kit's own laws. -/
import Derived.WalkKit
import Derived.ProofKit
import Derived.OpenShut
import Derived.Laws.OwnMore
import Derived.Deep.AppendLies
import Derived.Deep.Draws
import Derived.Lib.Hide
import Derived.Deep.QuietTactic
import Derived.BigQuiet
namespace Go.Proofs.Ytcidmlpjobdakaa
open Go.RowKit

/-- A slice '.slice A n c' reads as the cells xs, in blocks of which P holds. -/
def Reads (w : World) (P : Nat → Prop) (size : Nat) (A : Option Addr) (n : Nat) (xs : List Value) : Prop :=
  xs.length = n * size ∧ (0 < n → ∃ b off, A = some ⟨b, off, none⟩ ∧ P b ∧ ∀ j u, xs[j]? = some u → w.cell? ⟨b, off + j, none⟩ = some u)

/-- The blocks of which P holds are as they were. -/
def Same (P : Nat → Prop) (w w' : World) : Prop := ∀ b, P b → w'.heap[b]? = w.heap[b]?

theorem Same.refl (P : Nat → Prop) (w : World) : Same P w w := fun _ _ => rfl
theorem Same.trans {P : Nat → Prop} {a b c : World} (h : Same P a b) (k : Same P b c) : Same P a c := fun i hi => (k i hi).trans (h i hi)
theorem Same.mono {P Q : Nat → Prop} {a b : World} (h : Same P a b) (hq : ∀ i, Q i → P i) : Same Q a b := fun i hi => h i (hq i hi)
theorem Below.same' {B : Nat} {w w' : World} (h : Below B w w') {P : Nat → Prop} (hp : ∀ i, P i → i < B) : Same P w w' := fun i hi => h.block i (hp i hi)

section
variable {w w' : World} {P Q : Nat → Prop} {size n : Nat} {A : Option Addr} {xs : List Value}
theorem Reads.none_ : Reads w P size none 0 [] := ⟨by simp, fun h => absurd h (by omega)⟩
theorem Reads.zero : Reads w P size A 0 [] := ⟨by simp, fun h => absurd h (by omega)⟩
theorem Reads.keep (h : Reads w P size A n xs) (hk : Same P w w') : Reads w' P size A n xs :=
  ⟨h.1, fun hn => by
    obtain ⟨b, off, e, hb, hc⟩ := h.2 hn
    exact ⟨b, off, e, hb, fun j u hu => (World.cell?_of_block (w := w) (a := ⟨b, off + j, none⟩) (hk b hb)).trans (hc j u hu)⟩⟩
theorem Reads.more (h : Reads w P size A n xs) (hQ : ∀ i, P i → Q i) : Reads w Q size A n xs :=
  ⟨h.1, fun hn => by
    obtain ⟨b, off, e, hb, hc⟩ := h.2 hn
    exact ⟨b, off, e, hQ _ hb, hc⟩⟩
theorem Reads.below {B : Nat} (h : Reads w (· < B) size A n xs) (hb : Below B w w') : Reads w' (· < B) size A n xs := h.keep fun i hi => hb.block i hi
theorem Reads.drew (h : Reads w P size A n xs) : Reads w.drew P size A n xs := h
theorem Reads.drewN (h : Reads w P size A n xs) (k : Nat) : Reads (w.drewN k) P size A n xs := h
/-- The cell of element k, field j. -/
theorem Reads.cell (h : Reads w P size A n xs) {b off : Nat} (hA : A = some ⟨b, off, none⟩) {j : Nat} {u : Value} (hu : xs[j]? = some u) : w.cell? ⟨b, off + j, none⟩ = some u := by
  have hl : j < xs.length := (List.getElem?_eq_some_iff.1 hu).1
  have hn : 0 < n := by
    rcases Nat.eq_zero_or_pos n with h0 | h0
    · rw [h.1, h0] at hl; simp at hl
    · exact h0
  obtain ⟨b', off', e, _, hc⟩ := h.2 hn
  rw [hA] at e
  injection e with e
  injection e with e1 e2
  subst e1 e2
  exact hc j u hu
theorem Reads.at_ (h : Reads w P size A n xs) (hn : 0 < n) : ∃ b off, A = some ⟨b, off, none⟩ ∧ P b := by
  obtain ⟨b, off, e, hb, _⟩ := h.2 hn
  exact ⟨b, off, e, hb⟩
/-- What stands ahead of place k. -/
theorem Reads.take (h : Reads w P size A n xs) {k : Nat} (hk : k ≤ n) : Reads w P size A k (xs.take (k * size)) := by
  refine ⟨by rw [List.length_take, h.1]; exact Nat.min_eq_left (Nat.mul_le_mul_right _ hk), fun h0 => ?_⟩
  obtain ⟨b, off, e, hb, hc⟩ := h.2 (by omega)
  refine ⟨b, off, e, hb, fun j u hu => hc j u ?_⟩
  rw [List.getElem?_take] at hu
  split at hu
  · exact hu
  · cases hu
/-- What stands from place k on, at an address that is known. -/
theorem Reads.drop {b off : Nat} (h : Reads w P size (some ⟨b, off, none⟩) n xs) {k : Nat} (hk : k ≤ n) (A' : Option Addr) (hA : k < n → A' = some ⟨b, off + k * size, none⟩) :
    Reads w P size A' (n - k) (xs.drop (k * size)) := by
  refine ⟨by rw [List.length_drop, h.1, Nat.sub_mul], fun hn => ?_⟩
  obtain ⟨b', off', e, hb, hc⟩ := h.2 (by omega)
  injection e with e
  injection e with e1 e2
  subst e1 e2
  refine ⟨b, off + k * size, hA (by omega), hb, fun j u hu => ?_⟩
  rw [Nat.add_assoc]
  exact hc _ u (by rw [← hu, List.getElem?_drop])
theorem Reads.of_own {base : Nat} {e : TypeId} {c : Nat} (h : w.ownsRow base e size (.slice A n c) n xs) : Reads w (fun i => A.map (·.block) = some i) size A n xs := by
  refine ⟨h.1, fun hn => ?_⟩
  rcases h.2 with ⟨h1, h2⟩ | ⟨g, cap, cur, hv, _, hh, _, _, _, ht⟩
  · omega
  · injection hv with hA
    subst hA
    refine ⟨g, 0, rfl, rfl, fun j u hu => ?_⟩
    rw [Nat.zero_add, cell_of_row w g j cur e (0, 0) hh]
    rw [← ht, List.getElem?_take] at hu
    split at hu
    · simpa using hu
    · cases hu
end

/-! ## bytes -/
def B8 (x : BitVec 8) : Value := .int .u8 (x.toNat : Int)
def bytes (bs : List (BitVec 8)) : List Value := bs.map B8
theorem bytes_length (bs : List (BitVec 8)) : (bytes bs).length = bs.length := by simp [bytes]
theorem bytes_append (a b : List (BitVec 8)) : bytes (a ++ b) = bytes a ++ bytes b := by simp [bytes]
theorem bytes_get (bs : List (BitVec 8)) (k : Nat) : (bytes bs)[k]? = (bs[k]?).map B8 := by simp [bytes]
theorem bytes_one (bs : List (BitVec 8)) : ∀ u ∈ bytes bs, u.oneCell' = true := by
  intro u hu
  simp only [bytes, List.mem_map] at hu
  obtain ⟨x, _, rfl⟩ := hu
  rfl
/-- A slice reads as bytes. -/
def RB (w : World) (P : Nat → Prop) (A : Option Addr) (n : Nat) (bs : List (BitVec 8)) : Prop := Reads w P 1 A n (bytes bs)
section
variable {w w' : World} {P Q : Nat → Prop} {n : Nat} {A : Option Addr} {bs : List (BitVec 8)}
theorem RB.len (h : RB w P A n bs) : bs.length = n := by have := h.1; rw [bytes_length] at this; omega
theorem RB.keep (h : RB w P A n bs) (hk : Same P w w') : RB w' P A n bs := Reads.keep h hk
theorem RB.below {B : Nat} (h : RB w (· < B) A n bs) (hb : Below B w w') : RB w' (· < B) A n bs := Reads.below h hb
theorem RB.more (h : RB w P A n bs) (hQ : ∀ i, P i → Q i) : RB w Q A n bs := Reads.more h hQ
theorem RB.cell (h : RB w P A n bs) {k : Nat} (hk : k < n) : ∃ b off x, A = some ⟨b, off, none⟩ ∧ P b ∧ bs[k]? = some x ∧ w.cell? ⟨b, off + k, none⟩ = some (.int .u8 (x.toNat : Int)) := by
  obtain ⟨b, off, e, hb, hc⟩ := h.2 (by omega)
  have hl : k < bs.length := by rw [h.len]; exact hk
  refine ⟨b, off, bs[k], e, hb, List.getElem?_eq_getElem hl, hc k _ ?_⟩
  rw [bytes_get, List.getElem?_eq_getElem hl]; rfl
theorem RB.take (h : RB w P A n bs) {k : Nat} (hk : k ≤ n) : RB w P A k (bs.take k) := by
  have := Reads.take h hk
  rw [Nat.mul_one] at this
  unfold RB bytes at *
  rw [List.map_take]; exact this
theorem RB.drop {b off : Nat} (h : RB w P (some ⟨b, off, none⟩) n bs) {k : Nat} (hk : k ≤ n) (A' : Option Addr) (hA : k < n → A' = some ⟨b, off + k, none⟩) : RB w P A' (n - k) (bs.drop k) := by
  have := Reads.drop (k := k) h hk A' (by simpa using hA)
  rw [Nat.mul_one] at this
  unfold RB bytes at *
  rw [List.map_drop]; exact this
theorem RB.cut {cap : Nat} (h : RB w P A n bs) {k : Nat} (hk : k ≤ n) (hc : n ≤ cap) : RB w P (if cap = k then A else A.map (·.add k)) (n - k) (bs.drop k) := by
  by_cases h0 : k = n
  · subst h0
    rw [Nat.sub_self, List.drop_of_length_le (Nat.le_of_eq h.len)]
    exact Reads.zero
  · rw [if_neg (by omega)]
    obtain ⟨b, off, e, _⟩ := h.2 (by omega)
    subst e
    exact h.drop hk _ fun _ => by
      show some ((⟨b, off, none⟩ : Addr).add k) = _
      congr 1
      unfold Addr.add; split <;> simp_all
theorem RB.nil (w : World) (P : Nat → Prop) (A : Option Addr) : RB w P A 0 [] := Reads.zero
end
/-! ## numbers -/
/-- A slice reads as numbers of int. -/
def RI (w : World) (P : Nat → Prop) (A : Option Addr) (n : Nat) (zs : List Int) : Prop := Reads w P 1 A n (zs.map (Value.int .i64)) ∧ ∀ z ∈ zs, -9223372036854775808 ≤ z ∧ z ≤ 9223372036854775807
section
variable {w w' : World} {P Q : Nat → Prop} {n : Nat} {A : Option Addr} {zs : List Int}
theorem RI.len (h : RI w P A n zs) : zs.length = n := by have := h.1.1; simp at this; omega
theorem RI.keep (h : RI w P A n zs) (hk : Same P w w') : RI w' P A n zs := ⟨Reads.keep h.1 hk, h.2⟩
theorem RI.below {B : Nat} (h : RI w (· < B) A n zs) (hb : Below B w w') : RI w' (· < B) A n zs := ⟨Reads.below h.1 hb, h.2⟩
theorem RI.cell (h : RI w P A n zs) {k : Nat} (hk : k < n) : ∃ b off z, A = some ⟨b, off, none⟩ ∧ P b ∧ zs[k]? = some z ∧ -9223372036854775808 ≤ z ∧ z ≤ 9223372036854775807 ∧ w.cell? ⟨b, off + k, none⟩ = some (.int .i64 z) := by
  obtain ⟨b, off, e, hb, hc⟩ := h.1.2 (by omega)
  have hl : k < zs.length := by rw [h.len]; exact hk
  have hz := h.2 _ (List.getElem_mem hl)
  refine ⟨b, off, zs[k], e, hb, List.getElem?_eq_getElem hl, hz.1, hz.2, hc k _ ?_⟩
  rw [List.getElem?_map, List.getElem?_eq_getElem hl]; rfl
theorem RI.nil (w : World) (P : Nat → Prop) (A : Option Addr) : RI w P A 0 [] := ⟨Reads.zero, fun _ h => by cases h⟩
end
theorem take_succ_get {α : Type} (l : List α) (k : Nat) (x : α) (h : l[k]? = some x) : l.take (k + 1) = l.take k ++ [x] := by
  rw [List.take_add_one, h]; rfl

/-! ## A quiet region behind draws -/
theorem quiet_add {P : Program} {f : FuncId} {args : Array Value} {w : World} {a n : Nat} {v : Value}
    (h : Calls P f args (w.drewN (a + n)) fun e w' => e = .returned v ∧ ∃ m, w' = (w.drewN (a + n)).drewN m) :
    Calls P f args (w.drewN (a + n)) fun e w'' => e = .returned v ∧ ∃ m, w'' = w.drewN (a + m) :=
  h.mono fun _ _ ⟨he, m, hm⟩ => ⟨he, n + m, by rw [hm, World.drewN_drewN, Nat.add_assoc]⟩
theorem quiet_add_same {P : Program} {f : FuncId} {args : Array Value} {w : World} {a n : Nat} {v : Value}
    (h : Calls P f args (w.drewN (a + n)) fun e w' => e = .returned v ∧ w' = w.drewN (a + n)) :
    Calls P f args (w.drewN (a + n)) fun e w'' => e = .returned v ∧ ∃ m, w'' = w.drewN (a + m) :=
  h.mono fun _ _ ⟨he, hm⟩ => ⟨he, n, hm⟩

/-! ## append of one element onto a row of the call's own -/
theorem own_form {w : World} {base : Nat} {e : TypeId} {size : Nat} {v : Value} {n : Nat} {xs : List Value} (h : w.ownsRow base e size v n xs) :
    ∃ A c, v = .slice A n c ∧ n ≤ c ∧ c ≤ 9223372036854775807 ∧ (∀ b, A.map (·.block) = some b → base ≤ b ∧ b < w.heap.size) := by
  rcases h.2 with ⟨rfl, rfl⟩ | ⟨g, cap, cur, rfl, hb, hg, hn, hc, _⟩
  · exact ⟨none, 0, rfl, Nat.le_refl _, by decide, fun b h => by simp at h⟩
  · refine ⟨some ⟨g, 0, none⟩, cap, rfl, hn, by unfold maxLen at hc; exact hc, fun b h => ?_⟩
    simp at h
    subst h
    exact ⟨hb, (Array.getElem?_eq_some_iff.1 hg).1⟩
theorem own_reads {w : World} {base : Nat} {e : TypeId} {size : Nat} {A : Option Addr} {n c : Nat} {xs : List Value} (h : w.ownsRow base e size (.slice A n c) n xs) : Reads w (fun i => base ≤ i ∧ i < w.heap.size) size A n xs :=
  (Reads.of_own h).more fun i hi => by
    obtain ⟨A', c', e1, _, _, h4⟩ := own_form h
    injection e1 with e1 _ _
    subst e1
    exact h4 i hi
theorem one1 (u : Value) (h : u.oneCell' = true) : ∀ x ∈ (#[u] : Array Value).toList, x.oneCell' = true := by
  intro x hx; simp at hx; subst hx; exact h
theorem own_drewN {w : World} {base : Nat} {e : TypeId} {size : Nat} {v : Value} {n : Nat} {xs : List Value} (h : w.ownsRow base e size v n xs) (k : Nat) : (w.drewN k).ownsRow base e size v n xs := h
/-- 'append(s, x)': x lies in a new block of its own; what comes back is a row of the call's own again. -/
theorem wpList_app1 {P : Program} (w : World) (cs : Array Value) {ops : Array Oper} {rest : List Oper} {o : Oper} {a : Act} {Q : Exit → Act → World → Prop} (hgd : o.guard = none) (s x : Operand) (t : TypeId)
    (ho : o.op = .call { callee := .builtin .append, args := #[s, x], argTypes := #[t, t] })
    (base : Nat) (e : TypeId) (z : Value) (size bytes : Nat) (ht : P.underlying t = some (.slice e)) (hi : (P.info? e).map (fun i => (i.zero, i.size, i.bytes)) = some (some z, size, bytes))
    (hzs : z.cells.size = size) (hsz : 0 < size)
    (v : Value) (n : Nat) (xs : List Value) (hown : w.ownsRow base e size v n xs) (hs : a.eval s = v) (hx : a.eval x = .slice (some ⟨w.heap.size, 0, none⟩) 1 1)
    (hl : cs.size = size) (h1 : ∀ u ∈ cs.toList, u.oneCell' = true) (h63 : n + 1 ≤ 9223372036854775807) (hbytes : (n + 1) * bytes ≤ 140737488355328) (hbase : base ≤ w.heap.size)
    (h : ∀ g cap w', w'.ownsRow base e size (.slice (some ⟨g, 0, none⟩) (n + 1) cap) (n + 1) (xs ++ cs.toList) → w.grownBy w' v.ownBlock → Below base w w' → (v.ownBlock = some g ∨ w.heap.size ≤ g) → g < w'.heap.size →
      wpList P ops Q rest (a.put o.dst (.slice (some ⟨g, 0, none⟩) (n + 1) cap)) w') : wpList P ops Q (o :: rest) a (w.alloc (.cells cs e)) := by
  obtain ⟨i, hi0, hz0, hz1, hz2⟩ := info_parts hi
  refine wpList_append_lies _ hgd s x t ho base e i z size bytes ht hi0 hz0 hz1 hz2 hzs hsz v n xs hs (hown.alloc _) ⟨w.heap.size, 0, none⟩ 1 1 cs.toList hx (by simp [hl])
    (World.news_of_block (fr := (0, 0)) (heap_alloc_new w _)) h1 (by decide) (by unfold maxLen; exact h63) hbytes (by simp; omega) _ rfl ?_
  intro g cap w' h2 h3 h4 h5
  have hg : w.grownBy w' v.ownBlock := ⟨h3.os, h3.tape, h3.output, Nat.le_trans (by simp) h3.size, fun k hk hne => (h3.block k (by simp; omega) hne).trans (Below.heap_alloc w _ k hk)⟩
  refine h g cap w' h2 hg ⟨hg.os, hg.tape, hg.output, hg.size, fun k hk => hg.block k (by omega) (fun e => ?_)⟩ (h4.imp id (fun e => by simp at e; omega)) h5
  have := (hown.lt k e.symm).1
  omega

/-! ## append of what a slice reads -/
theorem run_append_of_nil {P : Program} (w : World) (base : Nat) (t ty e : TypeId) (i : TypeInfo) (size : Nat) (ht : P.underlying t = some (.slice e)) (hi : P.info? e = some i)
    (v : Value) (n : Nat) (xs : List Value) (hown : w.ownsRow base e size v n xs) (c : Nat) : (Builtin.append_ #[t, t] ty #[v, .slice none 0 c]).run P w = .ok v w := by
  rcases hown.2 with ⟨rfl, rfl⟩ | ⟨g, cap, cur, rfl, _, _, hnc, _⟩
  · simp [Builtin.append_, run_underlying ht, sizeOf, typeInfo, hi, Builtin.lenOf, Builtin.firstCells]
  · simp [Builtin.append_, run_underlying ht, sizeOf, typeInfo, hi, Builtin.lenOf, Builtin.firstCells, hnc, storeCells]
theorem run_appN {P : Program} (w : World) (base : Nat) (t ty e : TypeId) (z : Value) (size bytes : Nat) (ht : P.underlying t = some (.slice e)) (hi : (P.info? e).map (fun i => (i.zero, i.size, i.bytes)) = some (some z, size, bytes))
    (hzs : z.cells.size = size) (hsz : 0 < size)
    (v : Value) (n : Nat) (xs : List Value) (hown : w.ownsRow base e size v n xs)
    (Pr : Nat → Prop) (A : Option Addr) (m c : Nat) (news : List Value) (hr : Reads w Pr size A m news) (h1 : ∀ u ∈ news, u.oneCell' = true)
    (h63 : n + m ≤ 9223372036854775807) (hbytes : (n + m) * bytes ≤ 140737488355328) (hbase : base ≤ w.heap.size) :
    ∃ v' w', (Builtin.append_ #[t, t] ty #[v, .slice A m c]).run P w = .ok v' w' ∧ w'.ownsRow base e size v' (n + m) (xs ++ news) ∧ w.grownBy w' v.ownBlock ∧ Below base w w' ∧
      (v'.ownBlock = v.ownBlock ∨ v'.ownBlock = some w.heap.size) := by
  obtain ⟨i, hi0, hz0, hz1, hz2⟩ := info_parts hi
  have fin : ∀ w', w.grownBy w' v.ownBlock → Below base w w' := fun w' hg => ⟨hg.os, hg.tape, hg.output, hg.size, fun k hk => hg.block k (by omega) (fun e => by
    have := (hown.lt k e.symm).1
    omega)⟩
  have hnil : m = 0 → news = [] := fun h => List.eq_nil_of_length_eq_zero (by rw [hr.1, h]; simp)
  rcases A with _ | ad
  · have hm : m = 0 := by
      rcases Nat.eq_zero_or_pos m with h0 | h0
      · exact h0
      · obtain ⟨b, off, h, _⟩ := hr.2 h0
        cases h
    subst hm
    rw [hnil rfl, List.append_nil, Nat.add_zero]
    exact ⟨v, w, run_append_of_nil w base t ty e i size ht hi0 v n xs hown c, hown, World.grownBy.refl w _, Below.refl _ _, .inl rfl⟩
  · have hcells : ∀ j u, news[j]? = some u → w.cell? (ad.add j) = some u := by
      intro j u hu
      rcases Nat.eq_zero_or_pos m with h0 | h0
      · rw [hnil h0] at hu; simp at hu
      · obtain ⟨b, off, h, _, hc⟩ := hr.2 h0
        injection h with h
        subst h
        have e : (⟨b, off, none⟩ : Addr).add j = ⟨b, off + j, none⟩ := by unfold Addr.add; split <;> simp_all
        rw [e]
        exact hc j u hu
    obtain ⟨v', w', hrun, h2, h3, _, h5⟩ := run_append_own_at (P := P) w base t ty e i z size bytes ht hi0 hz0 hz1 hz2 hzs hsz v n xs hown ad m c news hr.1 hcells h1 (by unfold maxLen; exact h63) hbytes hbase
    exact ⟨v', w', hrun, h2, h3, fin w' h3, h5⟩
theorem wpList_appN {P : Program} (w : World) {ops : Array Oper} {rest : List Oper} {o : Oper} {a : Act} {Q : Exit → Act → World → Prop} (hgd : o.guard = none) (s x : Operand) (t : TypeId)
    (ho : o.op = .call { callee := .builtin .append, args := #[s, x], argTypes := #[t, t] })
    (base : Nat) (e : TypeId) (z : Value) (size bytes : Nat) (ht : P.underlying t = some (.slice e)) (hi : (P.info? e).map (fun i => (i.zero, i.size, i.bytes)) = some (some z, size, bytes))
    (hzs : z.cells.size = size) (hsz : 0 < size)
    (v : Value) (n : Nat) (xs : List Value) (hown : w.ownsRow base e size v n xs) (hs : a.eval s = v)
    (Pr : Nat → Prop) (A : Option Addr) (m c : Nat) (news : List Value) (hr : Reads w Pr size A m news) (hx : a.eval x = .slice A m c) (h1 : ∀ u ∈ news, u.oneCell' = true)
    (h63 : n + m ≤ 9223372036854775807) (hbytes : (n + m) * bytes ≤ 140737488355328) (hbase : base ≤ w.heap.size)
    (h : ∀ v' w', w'.ownsRow base e size v' (n + m) (xs ++ news) → w.grownBy w' v.ownBlock → Below base w w' → (v'.ownBlock = v.ownBlock ∨ v'.ownBlock = some w.heap.size) →
      wpList P ops Q rest (a.put o.dst v') w') : wpList P ops Q (o :: rest) a w := by
  refine wpList_plain hgd fun K hK => ?_
  obtain ⟨v', w', hr1, h2, h3, h4, h5⟩ := run_appN (P := P) w base t o.type e z size bytes ht hi hzs hsz v n xs hown Pr A m c news hr h1 h63 hbytes hbase
  unfold Oper.wp execOp
  simp only [ho, resolve, invoke, builtin, Sem.run_bind, Sem.run_pure, Result.andThen_ok, List.map_toArray, List.map_cons, List.map_nil, hs, hx, hr1]
  exact hK _ _ (h v' w' h2 h3 h4 h5)

/-! ## A region that draws its order, whose calls make memory: one walk, in a family of worlds -/
theorem below_drewN {B : Nat} {a w : World} (h : Below B a w) (n : Nat) : Below B a (w.drewN n) := ⟨h.os, h.tape, h.output, h.size, h.block⟩
/-- The worlds that are as w0 is below block B, under a name, numbered. -/
theorem family (B : Nat) (w0 : World) : ∃ (ι : Type) (W : ι → World), Nonempty ι ∧ (∃ n, { w0 with drawn := w0.drawn + 1 } = W n) ∧ (∀ n, Below B w0 (W n)) ∧ (∀ w', Below B w0 w' → ∃ n, w' = W n) :=
  ⟨{ w' : World // Below B w0 w' }, Subtype.val, ⟨⟨w0, Below.refl _ _⟩⟩, ⟨⟨_, (Below.refl B w0).drew⟩, rfl⟩, fun n => n.2, fun w' h => ⟨⟨w', h⟩, rfl⟩⟩
theorem wp_region_family {P : Program} {ι : Type} {W : ι → World} {id : Nat} {Q : Exit → Act → World → Prop} {a : Act} {w : World} {l : List Oper} (hm : P.follows .mixedOrders = true) (hB : Region.lexB .any l.toArray = true)
    (hC : ∃ n, { w with drawn := w.drawn + 1 } = W n) (h : wpQuiet P l.toArray (fun w' => ∃ n, w' = W n) (fun a' => ∀ w', (∃ n, w' = W n) → Q .normal a' w') l a) : (Code.region id l.toArray true).wp P Q a w :=
  wp_region_quiet (C := fun w' => ∃ n, w' = W n) hm hB hC (by simpa using h)
theorem calls_family {P : Program} {ι : Type} {W : ι → World} {f : FuncId} {args : Array Value} {n : ι} {v : Value} {B : Nat} {w0 : World}
    (h : Calls P f args (W n) fun e w' => e = .returned v ∧ Below (W n).heap.size (W n) w') (hB : ∀ n, Below B w0 (W n)) (hB0 : B ≤ w0.heap.size) (hall : ∀ w', Below B w0 w' → ∃ n, w' = W n) :
    Calls P f args (W n) fun e w'' => e = .returned v ∧ ∃ m, w'' = W m :=
  h.mono fun _ _ ⟨he, hb⟩ => ⟨he, hall _ ((hB n).trans (hb.mono (Nat.le_trans hB0 (hB n).size)))⟩
end Go.Proofs.Ytcidmlpjobdakaa
