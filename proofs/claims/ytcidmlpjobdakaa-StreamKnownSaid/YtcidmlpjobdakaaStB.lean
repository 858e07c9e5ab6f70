/- stream.Read. -/
import Derived.Test.YtcidmlpjobdakaaStA
namespace Go.Proofs.Ytcidmlpjobdakaa
set_option linter.unusedSimpArgs false
set_option linter.unusedVariables false
set_option linter.unnecessarySimpa false
open Go.RowKit Go.Shelf
attribute [local go_sem] Oper.semAt_some

theorem heap_at (w : World) (o : Obj) (k : Nat) (h : k = w.heap.size) : (w.alloc o).heap[k]? = some o := by rw [h]; exact World.alloc_heap_new w o
theorem not_row {X : World} {row : Option Nat} (hr : ∀ r, row = some r → ∃ o : Obj, X.heap[r]? = some o ∧ o.isCells = false) (i : Nat) (hi : CellsAt X i) : some i ≠ row := fun e => by
  obtain ⟨o, ho, hc⟩ := hr i e.symm
  obtain ⟨cur, t, h1⟩ := hi
  rw [h1] at ho
  cases ho
  cases hc
theorem Fresh.step {n₀ : Nat} {v : Value} {ns : List En} {X Y : World} {row : Option Nat} (h : Fresh X n₀ v ns) (hg : X.grownBy Y row) (hr : ∀ r, row = some r → ∃ o : Obj, X.heap[r]? = some o ∧ o.isCells = false) : Fresh Y n₀ v ns :=
  h.keep hg.size fun i _ hi hc => hg.block i hi (not_row hr i hc)
theorem boxed_step {B : Nat} {t : TypeId} {v : Value} {X Y : World} {row : Option Nat} (h : Boxed X B t v) (hg : X.grownBy Y row) (hr : ∀ r, row = some r → ∃ o : Obj, X.heap[r]? = some o ∧ o.isCells = false) : Boxed Y B t v :=
  h.kept hg (not_row hr B ⟨_, _, h⟩)
theorem zip_from {α : Type} (l : List α) (F k : Nat) : ((l.zipIdx k).filter (fun x => decide (F ≤ x.2))).map Prod.fst = l.drop (F - k) := by
  induction l generalizing k with
  | nil => simp
  | cons a l ih =>
    rw [List.zipIdx_cons, List.filter_cons]
    by_cases h : F ≤ k
    · rw [if_pos (by simpa using h), List.map_cons, ih, show F - k = 0 by omega, show F - (k + 1) = 0 by omega]; rfl
    · rw [if_neg (by simpa using h), ih, show F - k = (F - (k + 1)) + 1 by omega]; rfl
theorem hits_from {Ok : En → Prop} (p : En → Bool) (L : List (Subtype Ok)) (F : Nat) : ((hits p L).filter (fun x => decide (F ≤ x.2))).map (fun x => nkey x.1.1) = (((L.map Subtype.val).filter p).drop F).map nkey := by
  rw [show (fun x : Subtype Ok × Nat => nkey x.1.1) = (fun r : Subtype Ok => nkey r.1) ∘ Prod.fst from rfl, ← List.map_map]
  unfold hits
  rw [zip_from, Nat.sub_zero, List.filter_map, ← List.map_drop, List.map_map]
  rfl
/-- What has come out, a round having left. -/
def Left {Ok : En → Prop} (n₀ B4 B5 F : Nat) (mo : Int) (pre : List (Subtype Ok × Nat)) (W : World) : Prop := ∃ v ns pre' x, pre = pre' ++ [x] ∧ F ≤ x.2 ∧ ns.map nkey = (pre'.filter (fun x => decide (F ≤ x.2))).map (fun x => nkey x.1.1) ∧ (ns = [] ∨ (ns.length : Int) ≤ mo) ∧ mo ≤ ns.length ∧
  Boxed W B4 22 v ∧ Boxed W B5 4 (.bool true) ∧ Fresh W n₀ v ns
theorem Left.step {Ok : En → Prop} {n₀ B4 B5 F : Nat} {mo : Int} {pre : List (Subtype Ok × Nat)} {X Y : World} {row : Option Nat} (h : Left n₀ B4 B5 F mo pre X) (hg : X.grownBy Y row) (hr : ∀ r, row = some r → ∃ o : Obj, X.heap[r]? = some o ∧ o.isCells = false) : Left n₀ B4 B5 F mo pre Y := by
  obtain ⟨v, ns, pre', x, h1, h2, h3, h4, h5, h6, h7, h8⟩ := h
  exact ⟨v, ns, pre', x, h1, h2, h3, h4, h5, boxed_step h6 hg hr, boxed_step h7 hg hr, h8.step hg hr⟩
theorem more_no {ns D : List En} {X : List En} {F : Nat} {mo : Int} (hk : ns.map nkey = (X.drop F).map nkey) (hlm : ns = [] ∨ (ns.length : Int) ≤ mo) : decide (F + mo.toNat < X.length) = false ∧ ns.map nkey = ((X.drop F).take mo.toNat).map nkey := by
  have hl := congrArg List.length hk
  simp only [List.length_map, List.length_drop] at hl
  have hle : X.length - F ≤ mo.toNat := by
    rcases hlm with h | h
    · rw [h] at hl; simp at hl; omega
    · omega
  refine ⟨by simp; omega, ?_⟩
  rw [List.take_of_length_le (by rw [List.length_drop]; exact hle)]
  exact hk
theorem more_yes {ns : List En} {X : List En} {F : Nat} {mo : Int} {z} (hk : ns.map nkey ++ [z] <+: (X.drop F).map nkey) (hlm : ns = [] ∨ (ns.length : Int) ≤ mo) (hge : mo ≤ ns.length) : decide (F + mo.toNat < X.length) = true ∧ ns.map nkey = ((X.drop F).take mo.toNat).map nkey := by
  have hlen : ns.length = mo.toNat := by
    rcases hlm with h | h
    · rw [h] at hge ⊢; simp at hge ⊢; omega
    · omega
  obtain ⟨rest, hr⟩ := hk
  have hl := congrArg List.length hr
  simp only [List.length_append, List.length_map, List.length_drop, List.length_singleton] at hl
  refine ⟨by simp; omega, ?_⟩
  rw [List.map_take, ← hr, List.append_assoc, List.take_append_of_le_length (by rw [List.length_map]; omega), List.take_of_length_le (by rw [List.length_map]; omega)]

set_option maxHeartbeats 3200000 in
set_option maxRecDepth 100000 in
theorem strReadP_any (P : Nat → Prop) (A : Option Addr) (n c : Nat) (l : List En) (t a mo : Int) (F : Nat) (w : World) (hl : RL w P A n l) (hP : ∀ i, P i → i < w.heap.size) (hn : n ≤ 1000000000) (hf : ∀ r ∈ l, r.e.n ≤ 1099511627000) :
    Calls Try.prog 17 #[.slice A n c, .int .i64 t, .int .i64 a, .int .i64 (F : Int), .int .i64 mo] w fun e w' => ∃ v ns, e = .returned (.tuple #[v, .bool (decide (F + mo.toNat < (l.filter (readIs t a)).length))]) ∧ ns.map nkey = (((l.filter (readIs t a)).drop F).take mo.toNat).map nkey ∧ Fresh w' w.heap.size v ns ∧ Below w.heap.size w w' := by
  have hmax : max (F : Int) 0 = (F : Int) := by omega
  refine (callsIn_wide (n := 8)).1 ?_
  refine callsIn_of_wp_marks Try.func17 rfl trivial ?_ rfl
  simp only [Try.ntmps17, List.size_toArray, List.length_cons, List.length_nil, Nat.reduceAdd, Nat.reduceSub, Array.replicate_succ, Array.replicate_zero, List.push_toArray, List.append_toArray, List.nil_append, List.cons_append]
  gi_wp2_with (refine ⟨trivial, ?_⟩; refine (callsIn_wide.2 (those_any _ _ _ _ _ _ _)).mono ?_; rintro e w' ⟨rfl, rfl⟩)
  obtain ⟨W0, hW0⟩ : ∃ W0, W0 = (((((((((w.alloc (.cells #[.int .i64 t] 3)).alloc (.cells #[.int .i64 a] 3)).alloc (.cells #[.int .i64 (F : Int)] 3)).alloc (.cells #[.int .i64 mo] 3)).alloc (.cells #[.slice none 0 0] 22)).alloc (.cells #[.bool false] 4)).alloc (.cells #[.slice none 0 0] 22)).alloc (.cells #[.slice A n c] 22)).alloc (.cells #[.func (.func 40) #[] #[.pointer (some ⟨w.heap.size, 0, none⟩), .pointer (some ⟨(w.heap.size + 1), 0, none⟩)]] 66)) := ⟨_, rfl⟩
  have z0 : W0.heap.size = w.heap.size + 9 := by rw [hW0]; simp
  have kB0 : Below w.heap.size w W0 := by rw [hW0]; (repeat' first | exact Below.refl _ _ | refine Below.alloc ?_ (by (try simp only [World.size_alloc]); omega) _)
  have g0 : Boxed W0 w.heap.size 3 (.int .i64 t) := by
    unfold Boxed
    rw [hW0, Below.heap_alloc _ _ _ (by (try simp only [World.size_alloc]); omega), Below.heap_alloc _ _ _ (by (try simp only [World.size_alloc]); omega), Below.heap_alloc _ _ _ (by (try simp only [World.size_alloc]); omega), Below.heap_alloc _ _ _ (by (try simp only [World.size_alloc]); omega), Below.heap_alloc _ _ _ (by (try simp only [World.size_alloc]); omega), Below.heap_alloc _ _ _ (by (try simp only [World.size_alloc]); omega), Below.heap_alloc _ _ _ (by (try simp only [World.size_alloc]); omega), Below.heap_alloc _ _ _ (by (try simp only [World.size_alloc]); omega)]
    exact heap_at _ _ _ (by (try simp only [World.size_alloc]))
  have g1 : Boxed W0 (w.heap.size + 1) 3 (.int .i64 a) := by
    unfold Boxed
    rw [hW0, Below.heap_alloc _ _ _ (by (try simp only [World.size_alloc]); omega), Below.heap_alloc _ _ _ (by (try simp only [World.size_alloc]); omega), Below.heap_alloc _ _ _ (by (try simp only [World.size_alloc]); omega), Below.heap_alloc _ _ _ (by (try simp only [World.size_alloc]); omega), Below.heap_alloc _ _ _ (by (try simp only [World.size_alloc]); omega), Below.heap_alloc _ _ _ (by (try simp only [World.size_alloc]); omega), Below.heap_alloc _ _ _ (by (try simp only [World.size_alloc]); omega)]
    exact heap_at _ _ _ (by (try simp only [World.size_alloc]))
  have g2 : Boxed W0 (w.heap.size + 1 + 1) 3 (.int .i64 (F : Int)) := by
    unfold Boxed
    rw [hW0, Below.heap_alloc _ _ _ (by (try simp only [World.size_alloc]); omega), Below.heap_alloc _ _ _ (by (try simp only [World.size_alloc]); omega), Below.heap_alloc _ _ _ (by (try simp only [World.size_alloc]); omega), Below.heap_alloc _ _ _ (by (try simp only [World.size_alloc]); omega), Below.heap_alloc _ _ _ (by (try simp only [World.size_alloc]); omega), Below.heap_alloc _ _ _ (by (try simp only [World.size_alloc]); omega)]
    exact heap_at _ _ _ (by (try simp only [World.size_alloc]))
  have g3 : Boxed W0 (w.heap.size + 1 + 1 + 1) 3 (.int .i64 mo) := by
    unfold Boxed
    rw [hW0, Below.heap_alloc _ _ _ (by (try simp only [World.size_alloc]); omega), Below.heap_alloc _ _ _ (by (try simp only [World.size_alloc]); omega), Below.heap_alloc _ _ _ (by (try simp only [World.size_alloc]); omega), Below.heap_alloc _ _ _ (by (try simp only [World.size_alloc]); omega), Below.heap_alloc _ _ _ (by (try simp only [World.size_alloc]); omega)]
    exact heap_at _ _ _ (by (try simp only [World.size_alloc]))
  have g4 : Boxed W0 (w.heap.size + 1 + 1 + 1 + 1) 22 (.slice none 0 0) := by
    unfold Boxed
    rw [hW0, Below.heap_alloc _ _ _ (by (try simp only [World.size_alloc]); omega), Below.heap_alloc _ _ _ (by (try simp only [World.size_alloc]); omega), Below.heap_alloc _ _ _ (by (try simp only [World.size_alloc]); omega), Below.heap_alloc _ _ _ (by (try simp only [World.size_alloc]); omega)]
    exact heap_at _ _ _ (by (try simp only [World.size_alloc]))
  have g5 : Boxed W0 (w.heap.size + 1 + 1 + 1 + 1 + 1) 4 (.bool false) := by
    unfold Boxed
    rw [hW0, Below.heap_alloc _ _ _ (by (try simp only [World.size_alloc]); omega), Below.heap_alloc _ _ _ (by (try simp only [World.size_alloc]); omega), Below.heap_alloc _ _ _ (by (try simp only [World.size_alloc]); omega)]
    exact heap_at _ _ _ (by (try simp only [World.size_alloc]))
  have g6 : Boxed W0 (w.heap.size + 1 + 1 + 1 + 1 + 1 + 1) 22 (.slice none 0 0) := by
    unfold Boxed
    rw [hW0, Below.heap_alloc _ _ _ (by (try simp only [World.size_alloc]); omega), Below.heap_alloc _ _ _ (by (try simp only [World.size_alloc]); omega)]
    exact heap_at _ _ _ (by (try simp only [World.size_alloc]))
  have g7 : Boxed W0 (w.heap.size + 1 + 1 + 1 + 1 + 1 + 1 + 1) 22 (.slice A n c) := by
    unfold Boxed
    rw [hW0, Below.heap_alloc _ _ _ (by (try simp only [World.size_alloc]); omega)]
    exact heap_at _ _ _ (by (try simp only [World.size_alloc]))
  have g8 : Boxed W0 (w.heap.size + 1 + 1 + 1 + 1 + 1 + 1 + 1 + 1) 66 (.func (.func 40) #[] #[.pointer (some ⟨w.heap.size, 0, none⟩), .pointer (some ⟨(w.heap.size + 1), 0, none⟩)]) := by
    unfold Boxed
    rw [hW0]
    exact heap_at _ _ _ (by (try simp only [World.size_alloc]))
  obtain ⟨L, hL⟩ := exists_sub (Ok := OkAt W0 (fun i => i < W0.heap.size ∧ i ≠ (w.heap.size + 1 + 1 + 1 + 1 + 1 + 1))) l (fun r hr => ⟨((hl.2 r hr).keep fun i hi => kB0.block i (hP i hi)).more fun i hi => ⟨by have := hP i hi; omega, by have := hP i hi; omega⟩, hf r hr⟩)
  have hl0 : RL W0 (fun i => i < W0.heap.size ∧ i ≠ (w.heap.size + 1 + 1 + 1 + 1 + 1 + 1)) A n (L.map Subtype.val) := by
    rw [hL]
    exact (hl.keep fun i hi => kB0.block i (hP i hi)).more fun i hi => ⟨by have := hP i hi; omega, by have := hP i hi; omega⟩
  have hLn : L.length = n := by have := hl0.len; simpa using this
  obtain ⟨n₀, hn₀⟩ : ∃ n₀, n₀ = W0.heap.size := ⟨_, rfl⟩
  rw [← hW0]
  have HW0 := Lib.hid hW0
  clear hW0 hmax
  refine wpIn_rangeFunc_ownH (F := Fence.wide) rfl (by omega) (gf := 59) (lb := #[.pointer (some ⟨(w.heap.size + 1 + 1 + 1 + 1 + 1 + 1 + 1), 0, none⟩), .pointer (some ⟨(w.heap.size + 1 + 1 + 1 + 1 + 1 + 1 + 1 + 1), 0, none⟩)]) rfl trivial (enters_of Try.func59 (by kernel_rfl) rfl)
    (encs := encs) (Kp := KeepsBut W0.heap.size (w.heap.size + 1 + 1 + 1 + 1 + 1 + 1)) (S := fun ys => ys = hits (readIs t a) L) (Sp := fun pre => pre <+: hits (readIs t a) L) (N := L.length) (w0 := W0)
    (fun l J Jx W hW hJ hJx hY h0 => thoseRead 7 (by omega) l (w.heap.size + 1 + 1 + 1 + 1 + 1 + 1 + 1) (w.heap.size + 1 + 1 + 1 + 1 + 1 + 1 + 1 + 1) w.heap.size (w.heap.size + 1) W0.heap.size (w.heap.size + 1 + 1 + 1 + 1 + 1 + 1) t a A n c L J Jx W hJ hY (by omega) hW.size ((hW.cell (p := ⟨(w.heap.size + 1 + 1 + 1 + 1 + 1 + 1 + 1), 0, none⟩) (by show (w.heap.size + 1 + 1 + 1 + 1 + 1 + 1 + 1) < _; omega)).trans g7.cell) ((hW.cell (p := ⟨(w.heap.size + 1 + 1 + 1 + 1 + 1 + 1 + 1 + 1), 0, none⟩) (by show (w.heap.size + 1 + 1 + 1 + 1 + 1 + 1 + 1 + 1) < _; omega)).trans g8.cell) ((hW.cell (p := ⟨w.heap.size, 0, none⟩) (by show w.heap.size < _; omega)).trans g0.cell) ((hW.cell (p := ⟨w.heap.size + 1, 0, none⟩) (by show w.heap.size + 1 < _; omega)).trans g1.cell) (hl0.keep fun i hi => hW.block i hi.1) ⟨⟨by omega, by omega⟩, ⟨by omega, by omega⟩, ⟨by omega, by omega⟩, ⟨by omega, by omega⟩⟩ h0)
    (fun h k => h.trans k) (keepsBut_b (Nat.le_refl _)) (Below.refl _ _) (fun _ => rfl)
    (fun pre W => (∃ ns : List En, ns.map nkey = (pre.filter (fun x => decide (F ≤ x.2))).map (fun x => nkey x.1.1) ∧ (ns = [] ∨ (ns.length : Int) ≤ mo) ∧ Got W0.heap.size (w.heap.size + 1 + 1 + 1 + 1 + 1 + 1) W0 ns W) ∧ Below w.heap.size w W)
    (fun c pre W => (c = .ret ∧ Left W0.heap.size (w.heap.size + 1 + 1 + 1 + 1) (w.heap.size + 1 + 1 + 1 + 1 + 1) F mo pre W) ∧ Below w.heap.size w W)
    (OwnFrom.and (fun s X Y row ⟨ns, hk, hm, hg⟩ hgr hr => ⟨ns, hk, hm, hg.step (Nat.le_refl _) hgr hr⟩) (ownFrom_below (Nat.le_refl _) (by omega)))
    (fun c => OwnFrom.and (fun s X Y row ⟨h1, h2⟩ hgr hr => ⟨h1, h2.step hgr fun r e => (hr r e).2⟩) (ownFrom_below (Nat.le_refl _) (by omega)))
    ⟨⟨[], rfl, .inl rfl, ⟨⟨_, g6, Fresh.nil _ _⟩, KeepsBut.refl _ _ _⟩⟩, kB0⟩
    (fun x a' W => ∃ Bx, W0.heap.size ≤ Bx ∧ Box13 W Bx x.1.1 ∧ a' = { tmps := #[.slice A n c, .int .i64 t, .int .i64 a, .int .i64 (F : Int), .int .i64 mo, undef, .pointer (some ⟨w.heap.size, 0, none⟩), .pointer (some ⟨(w.heap.size + 1), 0, none⟩), .pointer (some ⟨(w.heap.size + 1 + 1), 0, none⟩), .pointer (some ⟨(w.heap.size + 1 + 1 + 1), 0, none⟩), .pointer (some ⟨(w.heap.size + 1 + 1 + 1 + 1), 0, none⟩), .pointer (some ⟨(w.heap.size + 1 + 1 + 1 + 1 + 1), 0, none⟩), .pointer (some ⟨(w.heap.size + 1 + 1 + 1 + 1 + 1 + 1), 0, none⟩), .int .i64 (x.2 : Int), .pointer (some ⟨Bx, 0, none⟩), .int .i64 (F : Int), .int .i64 (F : Int), .slice A n c, .func (.func 40) #[] #[.pointer (some ⟨w.heap.size, 0, none⟩), .pointer (some ⟨(w.heap.size + 1), 0, none⟩)], .func (.func 59) #[] #[.pointer (some ⟨(w.heap.size + 1 + 1 + 1 + 1 + 1 + 1 + 1), 0, none⟩), .pointer (some ⟨(w.heap.size + 1 + 1 + 1 + 1 + 1 + 1 + 1 + 1), 0, none⟩)], .int .i64 (x.2 : Int), .agg (nc x.1.1).toArray, undef, undef, undef, undef, undef, undef, undef, undef, undef, undef, undef, undef, undef, undef, undef, undef], defers := [] })
    (fun x a' => fun _ X Y row ⟨Bx, h1, h2, h3⟩ hg hr => ⟨Bx, h1, h2.kept (hg.block Bx (Array.getElem?_eq_some_iff.1 h2).1 (not_row (fun r e => (hr r e).2) Bx ⟨_, _, h2⟩)), h3⟩)
    ?assign ?body ?done ?stop
  case assign =>
    intro l pre x W K hi hK
    obtain ⟨⟨ns, hk, hm, hg⟩, hB⟩ := hi
    obtain ⟨⟨r, hok⟩, m⟩ := x
    have hsz := hg.2.1
    simp only [encs, nc]
    have HKK := Lib.hid hK
    have HKEY := Lib.hid hk
    clear hK hk
    gi_wp2
    exact HKK.out _ _ ((KeepsOthers.alloc _ _).from _) (KeepsBut.of_below ((Below.refl _ W).alloc hsz _)) ⟨⟨ns, HKEY.out, hm, hg.step (Nat.le_refl _) (World.grownBy_alloc W _ none) (fun r e => by cases e)⟩, hB.alloc hB.size _⟩ ⟨W.heap.size, hsz, Box13.new W r, rfl⟩
  case body =>
    rintro l pre x a' W hle - ⟨⟨ns, hk, hm, ⟨⟨v, hv, hF⟩, hK⟩⟩, hB⟩ ⟨Bx, hBx, hbx, rfl⟩ hlt
    have hkA : x.2 < F → ns.map nkey = ((pre ++ [x]).filter (fun x => decide (F ≤ x.2))).map (fun x => nkey x.1.1) := fun h => by
      rw [List.filter_append, List.filter_cons_of_neg (by simpa using h), List.filter_nil, List.append_nil]; exact hk
    have hkB : F ≤ x.2 → ∀ r', nkey r' = nkey x.1.1 → (ns ++ [r']).map nkey = ((pre ++ [x]).filter (fun x => decide (F ≤ x.2))).map (fun x => nkey x.1.1) := fun h r' hr' => by
      rw [List.filter_append, List.filter_cons_of_pos (by simpa using h), List.filter_nil, List.map_append, List.map_append, hk, List.map_singleton, List.map_singleton, hr']
    have hkX : F ≤ x.2 → mo ≤ ns.length → ∀ v W5, Boxed W5 (w.heap.size + 1 + 1 + 1 + 1) 22 v → Boxed W5 (w.heap.size + 1 + 1 + 1 + 1 + 1) 4 (.bool true) → Fresh W5 W0.heap.size v ns → Left W0.heap.size (w.heap.size + 1 + 1 + 1 + 1) (w.heap.size + 1 + 1 + 1 + 1 + 1) F mo (pre ++ [x]) W5 := fun h h' v W5 h4 h5 h6 => ⟨v, ns, pre, x, rfl, h, hk, hm, h', h4, h5, h6⟩
    obtain ⟨⟨r, hok⟩, m⟩ := x
    obtain ⟨⟨a0, a1, a2, A1, n1, c1, ds, b0, b1, b2, b3, b4, b5⟩, void, u0, u1⟩ := r
    have hsz := hK.1
    have hnl : ns.length ≤ pre.length := by
      have := congrArg List.length hk
      simp only [List.length_map] at this
      rw [this]
      exact List.length_filter_le _ _
    obtain ⟨A', c', rfl, hc1, hc2, _⟩ := own_form hF.row
    obtain ⟨N', hN'⟩ : ∃ N', N' = ns.length := ⟨_, rfl⟩
    have hrow := hF.row
    have hN2 : N' ≤ 1000000000 := by omega
    have k2 : Boxed W (w.heap.size + 1 + 1) 3 (.int .i64 (F : Int)) := (hK.2 _ (by omega) (by omega)).trans g2
    have k3 : Boxed W (w.heap.size + 1 + 1 + 1) 3 (.int .i64 mo) := (hK.2 _ (by omega) (by omega)).trans g3
    have k4 : Boxed W (w.heap.size + 1 + 1 + 1 + 1) 22 (.slice none 0 0) := (hK.2 _ (by omega) (by omega)).trans g4
    have k5 : Boxed W (w.heap.size + 1 + 1 + 1 + 1 + 1) 4 (.bool false) := (hK.2 _ (by omega) (by omega)).trans g5
    have q2 := k2.cell
    have q3 := k3.cell
    have q6 : W.cell? ⟨(w.heap.size + 1 + 1 + 1 + 1 + 1 + 1), 0, none⟩ = some (.slice A' N' c') := by rw [hN']; exact hv.cell
    by_cases h1 : m < F
    · have d1 : decide ((m : Int) < (F : Int)) = true := by simp; omega
      have d2 : decide (m < F) = true := by simp; omega
      have hk2 := hkA h1
      have HK2 := Lib.hid hk2
      have HI : Got W0.heap.size (w.heap.size + 1 + 1 + 1 + 1 + 1 + 1) W0 ns W := ⟨⟨_, hv, hF⟩, hK⟩
      clear hkA hkB hkX hk hk2 hv hF hK hrow hN' hnl hbx hlt h1 hL hLn hn₀ k2 k3 k4 k5
      simp only [nc]
      gi_wp2
      exact ⟨KeepsFrom.refl _ _, KeepsBut.refl _ _ _, ⟨ns, HK2.out, hm, HI⟩, hB⟩
    · have d1 : decide ((m : Int) < (F : Int)) = false := by simp; omega
      have d2 : decide (m < F) = false := by simp; omega
      by_cases hmo : mo ≤ (N' : Int)
      · have d3 : decide (mo ≤ (N' : Int)) = true := by simp; omega
        have d4 : decide ((N' : Int) ≥ mo) = true := by simp; omega
        have q4 := k4.cell
        have q5 := k5.cell
        have r4 := k4.frozen
        have r5 := k5.frozen
        obtain ⟨W5, hW5⟩ : ∃ W5, W5 = (W.setCell ⟨(w.heap.size + 1 + 1 + 1 + 1), 0, none⟩ (.slice A' N' c')).setCell ⟨(w.heap.size + 1 + 1 + 1 + 1 + 1), 0, none⟩ (.bool true) := ⟨_, rfl⟩
        have hkf : KeepsFrom W0.heap.size W W5 := by rw [hW5]; exact ((KeepsOthers.setCell _ _ _).trans (KeepsOthers.setCell _ _ _)).from _
        have hfar : ∀ i, W0.heap.size ≤ i → W5.heap[i]? = W.heap[i]? := fun i hi => by rw [hW5]; exact (Below.heap_setCell _ ⟨(w.heap.size + 1 + 1 + 1 + 1 + 1), 0, none⟩ _ i (by show i ≠ (w.heap.size + 1 + 1 + 1 + 1 + 1); omega)).trans (Below.heap_setCell _ ⟨(w.heap.size + 1 + 1 + 1 + 1), 0, none⟩ _ i (by show i ≠ (w.heap.size + 1 + 1 + 1 + 1); omega))
        have hF5 : Fresh W5 W0.heap.size (.slice A' N' c') ns := hN' ▸ hF.keep (by rw [hW5]; simp) fun i hi _ _ => hfar i hi
        have hB5 : Below w.heap.size w W5 := by rw [hW5]; exact (hB.setCell (p := ⟨(w.heap.size + 1 + 1 + 1 + 1), 0, none⟩) (by show w.heap.size ≤ (w.heap.size + 1 + 1 + 1 + 1); omega) _).setCell (p := ⟨(w.heap.size + 1 + 1 + 1 + 1 + 1), 0, none⟩) (by show w.heap.size ≤ (w.heap.size + 1 + 1 + 1 + 1 + 1); omega) _
        have hX := hkX (by show F ≤ m; omega) (by omega) (.slice A' N' c') W5 (by rw [hW5]; exact (k4.set _).other (by omega) _) (by rw [hW5]; exact (k5.other (by omega) _).set _) hF5
        have HX := Lib.hid hX
        have HW5 := Lib.hid hW5
        clear hkA hkB hkX hk hv hF hK hrow hN' hnl hbx hlt h1 hL hLn hn₀ k2 k3 k4 k5 hX hW5 hfar hF5
        simp only [nc]
        gi_wp2
        rw [← HW5.out]
        exact ⟨hkf, ⟨rfl, HX.out⟩, hB5⟩
      · have d3 : decide (mo ≤ (N' : Int)) = false := by simp; omega
        have d4 : decide ((N' : Int) ≥ mo) = false := by simp; omega
        obtain ⟨Wd, hWd⟩ : ∃ Wd, Wd = W.drew := ⟨_, rfl⟩
        have hsd : Wd.heap.size = W.heap.size := by rw [hWd]; rfl
        have kd : Below W.heap.size W Wd := by rw [hWd]; exact (Below.refl _ _).drew
        have hn₀d : n₀ ≤ Wd.heap.size := by omega
        have hT : Calls Try.prog 41 #[.agg (nc ⟨⟨a0, a1, a2, A1, n1, c1, ds, b0, b1, b2, b3, b4, b5⟩, void, u0, u1⟩).toArray] Wd fun e w' => ∃ r', e = .returned (.agg (nc r').toArray) ∧ nkey r' = nkey ⟨⟨a0, a1, a2, A1, n1, c1, ds, b0, b1, b2, b3, b4, b5⟩, void, u0, u1⟩ ∧ EvR w' (New W w') r'.e ∧ r'.e.n ≤ 1099511627000 ∧ Below Wd.heap.size Wd w' := by
          refine (copyOf_any ⟨⟨a0, a1, a2, A1, n1, c1, ds, b0, b1, b2, b3, b4, b5⟩, void, u0, u1⟩ (fun i => i < W0.heap.size ∧ i ≠ (w.heap.size + 1 + 1 + 1 + 1 + 1 + 1)) Wd (hok.1.keep fun i hi => (kd.block i (by omega)).trans (hK.2 i hi.1 hi.2)) (fun i hi => by omega) hok.2).mono ?_
          rintro e w' ⟨r', h1, h2, h3, h4, h5⟩
          exact ⟨r', h1, h2, h3.more fun i hi => ⟨by have := hi.1; omega, hi.2⟩, h4 ▸ hok.2, h5⟩
        have hD : ∀ Wx, Below Wd.heap.size Wd Wx → Wx.cell? ⟨(w.heap.size + 1 + 1 + 1 + 1 + 1 + 1), 0, none⟩ = some (.slice A' N' c') ∧ Wx.frozen? ⟨(w.heap.size + 1 + 1 + 1 + 1 + 1 + 1), 0, none⟩ = false ∧ Wx.ownsRow n₀ 39 13 (.slice A' N' c') N' (ns.flatMap nc) := fun Wx hx => by
          have hx2 : Below W.heap.size W Wx := kd.trans (hsd ▸ hx)
          have hvx : Boxed Wx (w.heap.size + 1 + 1 + 1 + 1 + 1 + 1) 22 (.slice A' N' c') := hN' ▸ (hx2.block _ hv.lt).trans hv
          exact ⟨hvx.cell, hvx.frozen, by rw [hN', hn₀]; exact own_below hrow hx2⟩
        have hG : ∀ W2 w3 r' g cap, Below Wd.heap.size Wd W2 → EvR W2 (New W W2) r'.e → r'.e.n ≤ 1099511627000 → w3.ownsRow n₀ 39 13 (.slice (some ⟨g, 0, none⟩) (N' + 1) cap) (N' + 1) (ns.flatMap nc ++ nc r') → W2.grownBy w3 (Value.slice A' N' c').ownBlock → ((Value.slice A' N' c').ownBlock = some g ∨ W2.heap.size ≤ g) →
            w3.cell? ⟨(w.heap.size + 1 + 1 + 1 + 1 + 1 + 1), 0, none⟩ = some (.slice A' N' c') ∧ w3.frozen? ⟨(w.heap.size + 1 + 1 + 1 + 1 + 1 + 1), 0, none⟩ = false ∧ (KeepsFrom W0.heap.size W (w3.setCell ⟨(w.heap.size + 1 + 1 + 1 + 1 + 1 + 1), 0, none⟩ (.slice (some ⟨g, 0, none⟩) (N' + 1) cap)) ∧ KeepsBut W0.heap.size (w.heap.size + 1 + 1 + 1 + 1 + 1 + 1) W (w3.setCell ⟨(w.heap.size + 1 + 1 + 1 + 1 + 1 + 1), 0, none⟩ (.slice (some ⟨g, 0, none⟩) (N' + 1) cap)) ∧
              Got W0.heap.size (w.heap.size + 1 + 1 + 1 + 1 + 1 + 1) W0 (ns ++ [r']) (w3.setCell ⟨(w.heap.size + 1 + 1 + 1 + 1 + 1 + 1), 0, none⟩ (.slice (some ⟨g, 0, none⟩) (N' + 1) cap)) ∧ Below (w.heap.size + 1 + 1 + 1 + 1 + 1 + 1) W (w3.setCell ⟨(w.heap.size + 1 + 1 + 1 + 1 + 1 + 1), 0, none⟩ (.slice (some ⟨g, 0, none⟩) (N' + 1) cap))) := by
          intro W2 w3 r' g cap h2 her hen ho hgr hat
          subst hN' hn₀
          exact got_push hsz (by omega) hv hF hK (kd.trans (hsd ▸ h2)) her hen ho hgr hat
        have hcells : ∀ j u, (nc ⟨⟨a0, a1, a2, A1, n1, c1, ds, b0, b1, b2, b3, b4, b5⟩, void, u0, u1⟩)[j]? = some u → Wd.cell? ⟨Bx, j, none⟩ = some u := fun j u hu => by
          rw [hWd]; exact (cell_drew_own _ _).trans (hbx.cell j u hu)
        have x0 := hcells 0 _ rfl
        have x1 := hcells 1 _ rfl
        have x2 := hcells 2 _ rfl
        have x3 := hcells 3 _ rfl
        have x4 := hcells 4 _ rfl
        have x5 := hcells 5 _ rfl
        have x6 := hcells 6 _ rfl
        have x7 := hcells 7 _ rfl
        have x8 := hcells 8 _ rfl
        have x9 := hcells 9 _ rfl
        have x10 := hcells 10 _ rfl
        have x11 := hcells 11 _ rfl
        have x12 := hcells 12 _ rfl
        simp only [nc] at hT
        have hk2 := hkB (by show F ≤ m; omega)
        have hB' : Below w.heap.size w W := hB
        have hm' : ((N' : Int) + 1) ≤ mo := by omega
        have hlen2 : ∀ r' : En, (ns ++ [r']).length = N' + 1 := fun r' => by rw [List.length_append, ← hN']; rfl
        have HLEN := Lib.hid hlen2
        have T := Lib.hid hT
        have D := Lib.hid hD
        have G := Lib.hid hG
        have HKEY := Lib.hid hk2
        have HB := Lib.hid hB'
        clear hkA hkB hkX hT hD hG hk hB' hB hv hF hK hrow hbx hcells hN' hnl hsd hl0 hL hLn hl hf hc1 hc2 HW0 hn₀ hk2 hlen2 k2 k3 k4 k5 g0 g1 g2 g3 g4 g5 g6 g7 g8
        simp only [nc]
        gi_wp2
        refine wpIn_region_any (by kernel_rfl) ?_
        change wpAnyIn _ _ _ _ _ _ _ _ _ (World.drew _)
        rw [← hWd]
        clear hWd
        refine wpAnyIn_ready (rs := [0, 1]) (by kernel_rfl) (by simp) ?_
        refine AllReadyIn.cons rfl (fun K hK => ?_) (AllReadyIn.cons rfl (fun K hK => ?_) AllReadyIn.nil)
        · skip
          have q0 := (D.out _ (Below.refl _ _)).1
          go_simp
          refine hK _ _ ?_
          clear hK K
          clear q0
          refine wpAnyIn_ready (rs := [1]) (by kernel_rfl) (by simp) ?_
          refine AllReadyIn.cons rfl (fun K hK => ?_) AllReadyIn.nil
          go_simp
          refine hK _ _ ?_
          clear hK K
          refine wpAnyIn_ready (rs := [2]) (by kernel_rfl) (by simp) ?_
          refine AllReadyIn.cons rfl (fun K hK => ?_) AllReadyIn.nil
          go_simp
          gi_wp2_with (refine ⟨trivial, ?_⟩; refine (CallsIn.inRound l (callsIn_wide.2 T.out)).mono ?_; rintro e W2 ⟨r', rfl, hkr, her, hen, hb2⟩; simp only [nc])
          have hb2d := hb2
          refine wpAnyIn_ready (rs := [3]) (by kernel_rfl) (by simp) ?_
          refine AllReadyIn.cons rfl (fun K hK => ?_) AllReadyIn.nil
          go_simp
          refine hK _ _ ?_
          clear hK K
          refine wpAnyIn_ready (rs := [4]) (by kernel_rfl) (by simp) ?_
          refine AllReadyIn.cons rfl (fun K hK => ?_) AllReadyIn.nil
          refine stepIn_app1 W2 #[.int .i64 r'.e.a0, .int .i64 r'.e.a1, .int .i64 r'.e.a2, (.slice r'.e.A r'.e.n r'.e.c), .int .i64 r'.e.b0, .int .i64 r'.e.b1, .int .i64 r'.e.b2, .int .i64 r'.e.b3, .int .i64 r'.e.b4, .int .i64 r'.e.b5, .bool r'.void, .int .i64 r'.y0, .int .i64 r'.y1] rfl (.tmp 22) (.tmp 25) 22 rfl n₀ 39 (.agg (nc zeroEn).toArray) 13 120 Try.underlying22 infoEn rfl (by decide) (.slice A' N' c') N' (ns.flatMap nc) ((D.out _ hb2).2.2) (by simp [Act.eval, Act.put]) (by simp [Act.eval, Act.put]) rfl (fun u hu => ncs_one [r'] u (by simpa [nc] using hu)) (by omega) (by omega) (Nat.le_trans hn₀d hb2.size) ?_
          intro g cap w3 hown3 hgr3 hB3 hat3 hlt3
          refine hK _ _ ?_
          clear hK K
          obtain ⟨hc3, hf3, hend⟩ := G.out W2 w3 r' g cap hb2 her (by omega) hown3 hgr3 hat3
          refine wpAnyIn_ready (rs := [5]) (by kernel_rfl) (by simp) ?_
          refine AllReadyIn.cons rfl (fun K hK => ?_) AllReadyIn.nil
          go_simp
          refine hK _ _ ?_
          clear hK K
          refine wpAnyIn_done (by kernel_rfl) ?_ _
          exact ⟨hend.1, hend.2.1, ⟨ns ++ [r'], HKEY.out r' hkr, .inr (by rw [HLEN.out]; omega), hend.2.2.1⟩, HB.out.trans (hend.2.2.2.mono (by omega))⟩
        · skip
          go_simp
          refine hK _ _ ?_
          clear hK K
          refine wpAnyIn_ready (rs := [0, 2]) (by kernel_rfl) (by simp) ?_
          refine AllReadyIn.cons rfl (fun K hK => ?_) (AllReadyIn.cons rfl (fun K hK => ?_) AllReadyIn.nil)
          · skip
            have q0 := (D.out _ (Below.refl _ _)).1
            go_simp
            refine hK _ _ ?_
            clear hK K
            clear q0
            refine wpAnyIn_ready (rs := [2]) (by kernel_rfl) (by simp) ?_
            refine AllReadyIn.cons rfl (fun K hK => ?_) AllReadyIn.nil
            go_simp
            gi_wp2_with (refine ⟨trivial, ?_⟩; refine (CallsIn.inRound l (callsIn_wide.2 T.out)).mono ?_; rintro e W2 ⟨r', rfl, hkr, her, hen, hb2⟩; simp only [nc])
            have hb2d := hb2
            refine wpAnyIn_ready (rs := [3]) (by kernel_rfl) (by simp) ?_
            refine AllReadyIn.cons rfl (fun K hK => ?_) AllReadyIn.nil
            go_simp
            refine hK _ _ ?_
            clear hK K
            refine wpAnyIn_ready (rs := [4]) (by kernel_rfl) (by simp) ?_
            refine AllReadyIn.cons rfl (fun K hK => ?_) AllReadyIn.nil
            refine stepIn_app1 W2 #[.int .i64 r'.e.a0, .int .i64 r'.e.a1, .int .i64 r'.e.a2, (.slice r'.e.A r'.e.n r'.e.c), .int .i64 r'.e.b0, .int .i64 r'.e.b1, .int .i64 r'.e.b2, .int .i64 r'.e.b3, .int .i64 r'.e.b4, .int .i64 r'.e.b5, .bool r'.void, .int .i64 r'.y0, .int .i64 r'.y1] rfl (.tmp 22) (.tmp 25) 22 rfl n₀ 39 (.agg (nc zeroEn).toArray) 13 120 Try.underlying22 infoEn rfl (by decide) (.slice A' N' c') N' (ns.flatMap nc) ((D.out _ hb2).2.2) (by simp [Act.eval, Act.put]) (by simp [Act.eval, Act.put]) rfl (fun u hu => ncs_one [r'] u (by simpa [nc] using hu)) (by omega) (by omega) (Nat.le_trans hn₀d hb2.size) ?_
            intro g cap w3 hown3 hgr3 hB3 hat3 hlt3
            refine hK _ _ ?_
            clear hK K
            obtain ⟨hc3, hf3, hend⟩ := G.out W2 w3 r' g cap hb2 her (by omega) hown3 hgr3 hat3
            refine wpAnyIn_ready (rs := [5]) (by kernel_rfl) (by simp) ?_
            refine AllReadyIn.cons rfl (fun K hK => ?_) AllReadyIn.nil
            go_simp
            refine hK _ _ ?_
            clear hK K
            refine wpAnyIn_done (by kernel_rfl) ?_ _
            exact ⟨hend.1, hend.2.1, ⟨ns ++ [r'], HKEY.out r' hkr, .inr (by rw [HLEN.out]; omega), hend.2.2.1⟩, HB.out.trans (hend.2.2.2.mono (by omega))⟩
          · skip
            go_simp
            gi_wp2_with (refine ⟨trivial, ?_⟩; refine (CallsIn.inRound l (callsIn_wide.2 T.out)).mono ?_; rintro e W2 ⟨r', rfl, hkr, her, hen, hb2⟩; simp only [nc])
            have hb2d := hb2
            refine wpAnyIn_ready (rs := [0, 3]) (by kernel_rfl) (by simp) ?_
            refine AllReadyIn.cons rfl (fun K hK => ?_) (AllReadyIn.cons rfl (fun K hK => ?_) AllReadyIn.nil)
            · skip
              have q0 := (D.out _ hb2d).1
              go_simp
              refine hK _ _ ?_
              clear hK K
              clear q0
              refine wpAnyIn_ready (rs := [3]) (by kernel_rfl) (by simp) ?_
              refine AllReadyIn.cons rfl (fun K hK => ?_) AllReadyIn.nil
              go_simp
              refine hK _ _ ?_
              clear hK K
              refine wpAnyIn_ready (rs := [4]) (by kernel_rfl) (by simp) ?_
              refine AllReadyIn.cons rfl (fun K hK => ?_) AllReadyIn.nil
              refine stepIn_app1 W2 #[.int .i64 r'.e.a0, .int .i64 r'.e.a1, .int .i64 r'.e.a2, (.slice r'.e.A r'.e.n r'.e.c), .int .i64 r'.e.b0, .int .i64 r'.e.b1, .int .i64 r'.e.b2, .int .i64 r'.e.b3, .int .i64 r'.e.b4, .int .i64 r'.e.b5, .bool r'.void, .int .i64 r'.y0, .int .i64 r'.y1] rfl (.tmp 22) (.tmp 25) 22 rfl n₀ 39 (.agg (nc zeroEn).toArray) 13 120 Try.underlying22 infoEn rfl (by decide) (.slice A' N' c') N' (ns.flatMap nc) ((D.out _ hb2).2.2) (by simp [Act.eval, Act.put]) (by simp [Act.eval, Act.put]) rfl (fun u hu => ncs_one [r'] u (by simpa [nc] using hu)) (by omega) (by omega) (Nat.le_trans hn₀d hb2.size) ?_
              intro g cap w3 hown3 hgr3 hB3 hat3 hlt3
              refine hK _ _ ?_
              clear hK K
              obtain ⟨hc3, hf3, hend⟩ := G.out W2 w3 r' g cap hb2 her (by omega) hown3 hgr3 hat3
              refine wpAnyIn_ready (rs := [5]) (by kernel_rfl) (by simp) ?_
              refine AllReadyIn.cons rfl (fun K hK => ?_) AllReadyIn.nil
              go_simp
              refine hK _ _ ?_
              clear hK K
              refine wpAnyIn_done (by kernel_rfl) ?_ _
              exact ⟨hend.1, hend.2.1, ⟨ns ++ [r'], HKEY.out r' hkr, .inr (by rw [HLEN.out]; omega), hend.2.2.1⟩, HB.out.trans (hend.2.2.2.mono (by omega))⟩
            · skip
              go_simp
              refine hK _ _ ?_
              clear hK K
              refine wpAnyIn_ready (rs := [0]) (by kernel_rfl) (by simp) ?_
              refine AllReadyIn.cons rfl (fun K hK => ?_) AllReadyIn.nil
              have q0 := (D.out _ (hb2.alloc hb2.size (.cells #[.int .i64 r'.e.a0, .int .i64 r'.e.a1, .int .i64 r'.e.a2, (.slice r'.e.A r'.e.n r'.e.c), .int .i64 r'.e.b0, .int .i64 r'.e.b1, .int .i64 r'.e.b2, .int .i64 r'.e.b3, .int .i64 r'.e.b4, .int .i64 r'.e.b5, .bool r'.void, .int .i64 r'.y0, .int .i64 r'.y1] 39))).1
              go_simp
              refine hK _ _ ?_
              clear hK K
              clear q0
              refine wpAnyIn_ready (rs := [4]) (by kernel_rfl) (by simp) ?_
              refine AllReadyIn.cons rfl (fun K hK => ?_) AllReadyIn.nil
              refine stepIn_app1 W2 #[.int .i64 r'.e.a0, .int .i64 r'.e.a1, .int .i64 r'.e.a2, (.slice r'.e.A r'.e.n r'.e.c), .int .i64 r'.e.b0, .int .i64 r'.e.b1, .int .i64 r'.e.b2, .int .i64 r'.e.b3, .int .i64 r'.e.b4, .int .i64 r'.e.b5, .bool r'.void, .int .i64 r'.y0, .int .i64 r'.y1] rfl (.tmp 22) (.tmp 25) 22 rfl n₀ 39 (.agg (nc zeroEn).toArray) 13 120 Try.underlying22 infoEn rfl (by decide) (.slice A' N' c') N' (ns.flatMap nc) ((D.out _ hb2).2.2) (by simp [Act.eval, Act.put]) (by simp [Act.eval, Act.put]) rfl (fun u hu => ncs_one [r'] u (by simpa [nc] using hu)) (by omega) (by omega) (Nat.le_trans hn₀d hb2.size) ?_
              intro g cap w3 hown3 hgr3 hB3 hat3 hlt3
              refine hK _ _ ?_
              clear hK K
              obtain ⟨hc3, hf3, hend⟩ := G.out W2 w3 r' g cap hb2 her (by omega) hown3 hgr3 hat3
              refine wpAnyIn_ready (rs := [5]) (by kernel_rfl) (by simp) ?_
              refine AllReadyIn.cons rfl (fun K hK => ?_) AllReadyIn.nil
              go_simp
              refine hK _ _ ?_
              clear hK K
              refine wpAnyIn_done (by kernel_rfl) ?_ _
              exact ⟨hend.1, hend.2.1, ⟨ns ++ [r'], HKEY.out r' hkr, .inr (by rw [HLEN.out]; omega), hend.2.2.1⟩, HB.out.trans (hend.2.2.2.mono (by omega))⟩
  case done =>
    rintro D ys W hD rfl ⟨⟨ns, hk, hm, ⟨⟨v, hv, hF⟩, hKB⟩⟩, hB⟩ hK
    obtain ⟨A', c', hveq, _⟩ := own_form hF.row
    subst hveq
    have k4 : Boxed W (w.heap.size + 1 + 1 + 1 + 1) 22 (.slice none 0 0) := (hKB.2 _ (by omega) (by omega)).trans g4
    have k5 : Boxed W (w.heap.size + 1 + 1 + 1 + 1 + 1) 4 (.bool false) := (hKB.2 _ (by omega) (by omega)).trans g5
    rw [hits_from, hL] at hk
    obtain ⟨e1, e2⟩ := more_no (D := []) hk hm
    have E1 := Lib.hid e1
    have E2 := Lib.hid e2
    have hc := hv.cell
    have q4 := k4.cell
    have q5 := k5.cell
    have r4 := k4.frozen
    have r5 := k5.frozen
    obtain ⟨W5, hW5⟩ : ∃ W5, W5 = (W.setCell ⟨(w.heap.size + 1 + 1 + 1 + 1), 0, none⟩ (.slice A' ns.length c')).setCell ⟨(w.heap.size + 1 + 1 + 1 + 1 + 1), 0, none⟩ (.bool false) := ⟨_, rfl⟩
    have s4 : Boxed W5 (w.heap.size + 1 + 1 + 1 + 1) 22 (.slice A' ns.length c') := by rw [hW5]; exact (k4.set _).other (by omega) _
    have s5 : Boxed W5 (w.heap.size + 1 + 1 + 1 + 1 + 1) 4 (.bool false) := by rw [hW5]; exact (k5.other (by omega) _).set _
    have hK' : W5.heap[D]? = some (.deferred (some [])) := by
      rw [hW5]; exact (Below.heap_setCell _ ⟨(w.heap.size + 1 + 1 + 1 + 1 + 1), 0, none⟩ _ D (by show D ≠ (w.heap.size + 1 + 1 + 1 + 1 + 1); omega)).trans ((Below.heap_setCell _ ⟨(w.heap.size + 1 + 1 + 1 + 1), 0, none⟩ _ D (by show D ≠ (w.heap.size + 1 + 1 + 1 + 1); omega)).trans hK)
    have hfar : ∀ i, W0.heap.size ≤ i → W5.heap[i]? = W.heap[i]? := fun i hi => by rw [hW5]; exact (Below.heap_setCell _ ⟨(w.heap.size + 1 + 1 + 1 + 1 + 1), 0, none⟩ _ i (by show i ≠ (w.heap.size + 1 + 1 + 1 + 1 + 1); omega)).trans (Below.heap_setCell _ ⟨(w.heap.size + 1 + 1 + 1 + 1), 0, none⟩ _ i (by show i ≠ (w.heap.size + 1 + 1 + 1 + 1); omega))
    have hF5 : Fresh W5 W0.heap.size (.slice A' ns.length c') ns := hF.keep (by rw [hW5]; simp) fun i hi _ _ => hfar i hi
    have hB5 : Below w.heap.size w W5 := by rw [hW5]; exact (hB.setCell (p := ⟨(w.heap.size + 1 + 1 + 1 + 1), 0, none⟩) (by show w.heap.size ≤ (w.heap.size + 1 + 1 + 1 + 1); omega) _).setCell (p := ⟨(w.heap.size + 1 + 1 + 1 + 1 + 1), 0, none⟩) (by show w.heap.size ≤ (w.heap.size + 1 + 1 + 1 + 1 + 1); omega) _
    have hgr := grownBy_putObj' W5 D (Obj.deferred none)
    have hrr : ∀ r, some D = some r → ∃ o : Obj, W5.heap[r]? = some o ∧ o.isCells = false := fun r e => by cases e; exact ⟨_, hK', rfl⟩
    have hF6 := (hF5.step hgr hrr).base (n₁ := w.heap.size) (by omega)
    have p4 := (boxed_step s4 hgr hrr).cell
    have p5 := (boxed_step s5 hgr hrr).cell
    have hB6 := hB5.trans (belowK_b (w := w) (Nat.le_refl _) W5 D _ (.deferred none) (by omega) hK' rfl rfl)
    have HW5 := Lib.hid hW5
    clear hk hv hF hKB hB k4 k5 hW5 hfar hF5 hB5 e1 e2 s4 s5 hgr hrr g0 g1 g2 g3 g4 g5 g6 g7 g8 hK
    gi_wp2
    rw [← HW5.out]
    refine ⟨by simp, .inl ⟨_, _, rfl, run_takeDeferred hK', ?_⟩⟩
    refine ⟨.tuple #[.slice A' ns.length c', .bool false], ?_, _, ns, by rw [E1.out], E2.out, hF6, hB6⟩
    simp [results, Try.f17, go_sem, p4, p5]
  case stop =>
    rintro D c' pre W hD hSp ⟨⟨rfl, v, ns, pre', x, rfl, hx, hk, hm, hge, s4, s5, hF⟩, hB⟩ hK
    have hpx : ns.map nkey ++ [nkey x.1.1] <+: (((L.map Subtype.val).filter (readIs t a)).drop F).map nkey := by
      have h1 := (hSp.filter (fun x => decide (F ≤ x.2))).map (fun x => nkey x.1.1)
      rw [hits_from, List.filter_append, List.filter_cons_of_pos (by simpa using hx), List.filter_nil, List.map_append, ← hk] at h1
      exact h1
    rw [hL] at hpx
    obtain ⟨e1, e2⟩ := more_yes hpx hm hge
    obtain ⟨A', c', hveq, _⟩ := own_form hF.row
    subst hveq
    have E1 := Lib.hid e1
    have E2 := Lib.hid e2
    have hgr := grownBy_putObj' W D (Obj.deferred none)
    have hrr : ∀ r, some D = some r → ∃ o : Obj, W.heap[r]? = some o ∧ o.isCells = false := fun r e => by cases e; exact ⟨_, hK, rfl⟩
    have hF6 := (hF.step hgr hrr).base (n₁ := w.heap.size) (by omega)
    have p4 := (boxed_step s4 hgr hrr).cell
    have p5 := (boxed_step s5 hgr hrr).cell
    have hB6 := hB.trans (belowK_b (w := w) (Nat.le_refl _) W D _ (.deferred none) (by omega) hK rfl rfl)
    clear hk hF hB e1 e2 s4 s5 hgr hrr g0 g1 g2 g3 g4 g5 g6 g7 g8 hpx hSp
    gi_wp2
    refine ⟨by simp, .inl ⟨_, _, rfl, run_takeDeferred hK, ?_⟩⟩
    refine ⟨.tuple #[.slice A' ns.length c', .bool true], ?_, _, ns, by rw [E1.out], E2.out, hF6, hB6⟩
    simp [results, Try.f17, go_sem, p4, p5]
set_option maxHeartbeats 3200000 in
set_option maxRecDepth 100000 in
theorem strReadN_any (P : Nat → Prop) (A : Option Addr) (n c : Nat) (l : List En) (t a f mo : Int) (w : World) (hneg : f < 0) (hl : RL w P A n l) (hP : ∀ i, P i → i < w.heap.size) (hn : n ≤ 1000000000) (hf : ∀ r ∈ l, r.e.n ≤ 1099511627000) :
    Calls Try.prog 17 #[.slice A n c, .int .i64 t, .int .i64 a, .int .i64 f, .int .i64 mo] w fun e w' => ∃ v ns, e = .returned (.tuple #[v, .bool (decide (0 + mo.toNat < (l.filter (readIs t a)).length))]) ∧ ns.map nkey = (((l.filter (readIs t a)).drop 0).take mo.toNat).map nkey ∧ Fresh w' w.heap.size v ns ∧ Below w.heap.size w w' := by
  refine (callsIn_wide (n := 8)).1 ?_
  refine callsIn_of_wp_marks Try.func17 rfl trivial ?_ rfl
  simp only [Try.ntmps17, List.size_toArray, List.length_cons, List.length_nil, Nat.reduceAdd, Nat.reduceSub, Array.replicate_succ, Array.replicate_zero, List.push_toArray, List.append_toArray, List.nil_append, List.cons_append]
  gi_wp2_with (refine ⟨trivial, ?_⟩; refine (callsIn_wide.2 (those_any _ _ _ _ _ _ _)).mono ?_; rintro e w' ⟨rfl, rfl⟩)
  obtain ⟨W0, hW0⟩ : ∃ W0, W0 = (((((((((w.alloc (.cells #[.int .i64 t] 3)).alloc (.cells #[.int .i64 a] 3)).alloc (.cells #[.int .i64 0] 3)).alloc (.cells #[.int .i64 mo] 3)).alloc (.cells #[.slice none 0 0] 22)).alloc (.cells #[.bool false] 4)).alloc (.cells #[.slice none 0 0] 22)).alloc (.cells #[.slice A n c] 22)).alloc (.cells #[.func (.func 40) #[] #[.pointer (some ⟨w.heap.size, 0, none⟩), .pointer (some ⟨(w.heap.size + 1), 0, none⟩)]] 66)) := ⟨_, rfl⟩
  have z0 : W0.heap.size = w.heap.size + 9 := by rw [hW0]; simp
  have kB0 : Below w.heap.size w W0 := by rw [hW0]; (repeat' first | exact Below.refl _ _ | refine Below.alloc ?_ (by (try simp only [World.size_alloc]); omega) _)
  have g0 : Boxed W0 w.heap.size 3 (.int .i64 t) := by
    unfold Boxed
    rw [hW0, Below.heap_alloc _ _ _ (by (try simp only [World.size_alloc]); omega), Below.heap_alloc _ _ _ (by (try simp only [World.size_alloc]); omega), Below.heap_alloc _ _ _ (by (try simp only [World.size_alloc]); omega), Below.heap_alloc _ _ _ (by (try simp only [World.size_alloc]); omega), Below.heap_alloc _ _ _ (by (try simp only [World.size_alloc]); omega), Below.heap_alloc _ _ _ (by (try simp only [World.size_alloc]); omega), Below.heap_alloc _ _ _ (by (try simp only [World.size_alloc]); omega), Below.heap_alloc _ _ _ (by (try simp only [World.size_alloc]); omega)]
    exact heap_at _ _ _ (by (try simp only [World.size_alloc]))
  have g1 : Boxed W0 (w.heap.size + 1) 3 (.int .i64 a) := by
    unfold Boxed
    rw [hW0, Below.heap_alloc _ _ _ (by (try simp only [World.size_alloc]); omega), Below.heap_alloc _ _ _ (by (try simp only [World.size_alloc]); omega), Below.heap_alloc _ _ _ (by (try simp only [World.size_alloc]); omega), Below.heap_alloc _ _ _ (by (try simp only [World.size_alloc]); omega), Below.heap_alloc _ _ _ (by (try simp only [World.size_alloc]); omega), Below.heap_alloc _ _ _ (by (try simp only [World.size_alloc]); omega), Below.heap_alloc _ _ _ (by (try simp only [World.size_alloc]); omega)]
    exact heap_at _ _ _ (by (try simp only [World.size_alloc]))
  have g2 : Boxed W0 (w.heap.size + 1 + 1) 3 (.int .i64 0) := by
    unfold Boxed
    rw [hW0, Below.heap_alloc _ _ _ (by (try simp only [World.size_alloc]); omega), Below.heap_alloc _ _ _ (by (try simp only [World.size_alloc]); omega), Below.heap_alloc _ _ _ (by (try simp only [World.size_alloc]); omega), Below.heap_alloc _ _ _ (by (try simp only [World.size_alloc]); omega), Below.heap_alloc _ _ _ (by (try simp only [World.size_alloc]); omega), Below.heap_alloc _ _ _ (by (try simp only [World.size_alloc]); omega)]
    exact heap_at _ _ _ (by (try simp only [World.size_alloc]))
  have g3 : Boxed W0 (w.heap.size + 1 + 1 + 1) 3 (.int .i64 mo) := by
    unfold Boxed
    rw [hW0, Below.heap_alloc _ _ _ (by (try simp only [World.size_alloc]); omega), Below.heap_alloc _ _ _ (by (try simp only [World.size_alloc]); omega), Below.heap_alloc _ _ _ (by (try simp only [World.size_alloc]); omega), Below.heap_alloc _ _ _ (by (try simp only [World.size_alloc]); omega), Below.heap_alloc _ _ _ (by (try simp only [World.size_alloc]); omega)]
    exact heap_at _ _ _ (by (try simp only [World.size_alloc]))
  have g4 : Boxed W0 (w.heap.size + 1 + 1 + 1 + 1) 22 (.slice none 0 0) := by
    unfold Boxed
    rw [hW0, Below.heap_alloc _ _ _ (by (try simp only [World.size_alloc]); omega), Below.heap_alloc _ _ _ (by (try simp only [World.size_alloc]); omega), Below.heap_alloc _ _ _ (by (try simp only [World.size_alloc]); omega), Below.heap_alloc _ _ _ (by (try simp only [World.size_alloc]); omega)]
    exact heap_at _ _ _ (by (try simp only [World.size_alloc]))
  have g5 : Boxed W0 (w.heap.size + 1 + 1 + 1 + 1 + 1) 4 (.bool false) := by
    unfold Boxed
    rw [hW0, Below.heap_alloc _ _ _ (by (try simp only [World.size_alloc]); omega), Below.heap_alloc _ _ _ (by (try simp only [World.size_alloc]); omega), Below.heap_alloc _ _ _ (by (try simp only [World.size_alloc]); omega)]
    exact heap_at _ _ _ (by (try simp only [World.size_alloc]))
  have g6 : Boxed W0 (w.heap.size + 1 + 1 + 1 + 1 + 1 + 1) 22 (.slice none 0 0) := by
    unfold Boxed
    rw [hW0, Below.heap_alloc _ _ _ (by (try simp only [World.size_alloc]); omega), Below.heap_alloc _ _ _ (by (try simp only [World.size_alloc]); omega)]
    exact heap_at _ _ _ (by (try simp only [World.size_alloc]))
  have g7 : Boxed W0 (w.heap.size + 1 + 1 + 1 + 1 + 1 + 1 + 1) 22 (.slice A n c) := by
    unfold Boxed
    rw [hW0, Below.heap_alloc _ _ _ (by (try simp only [World.size_alloc]); omega)]
    exact heap_at _ _ _ (by (try simp only [World.size_alloc]))
  have g8 : Boxed W0 (w.heap.size + 1 + 1 + 1 + 1 + 1 + 1 + 1 + 1) 66 (.func (.func 40) #[] #[.pointer (some ⟨w.heap.size, 0, none⟩), .pointer (some ⟨(w.heap.size + 1), 0, none⟩)]) := by
    unfold Boxed
    rw [hW0]
    exact heap_at _ _ _ (by (try simp only [World.size_alloc]))
  obtain ⟨L, hL⟩ := exists_sub (Ok := OkAt W0 (fun i => i < W0.heap.size ∧ i ≠ (w.heap.size + 1 + 1 + 1 + 1 + 1 + 1))) l (fun r hr => ⟨((hl.2 r hr).keep fun i hi => kB0.block i (hP i hi)).more fun i hi => ⟨by have := hP i hi; omega, by have := hP i hi; omega⟩, hf r hr⟩)
  have hl0 : RL W0 (fun i => i < W0.heap.size ∧ i ≠ (w.heap.size + 1 + 1 + 1 + 1 + 1 + 1)) A n (L.map Subtype.val) := by
    rw [hL]
    exact (hl.keep fun i hi => kB0.block i (hP i hi)).more fun i hi => ⟨by have := hP i hi; omega, by have := hP i hi; omega⟩
  have hLn : L.length = n := by have := hl0.len; simpa using this
  obtain ⟨n₀, hn₀⟩ : ∃ n₀, n₀ = W0.heap.size := ⟨_, rfl⟩
  rw [← hW0]
  have HW0 := Lib.hid hW0
  clear hW0 hneg
  refine wpIn_rangeFunc_ownH (F := Fence.wide) rfl (by omega) (gf := 59) (lb := #[.pointer (some ⟨(w.heap.size + 1 + 1 + 1 + 1 + 1 + 1 + 1), 0, none⟩), .pointer (some ⟨(w.heap.size + 1 + 1 + 1 + 1 + 1 + 1 + 1 + 1), 0, none⟩)]) rfl trivial (enters_of Try.func59 (by kernel_rfl) rfl)
    (encs := encs) (Kp := KeepsBut W0.heap.size (w.heap.size + 1 + 1 + 1 + 1 + 1 + 1)) (S := fun ys => ys = hits (readIs t a) L) (Sp := fun pre => pre <+: hits (readIs t a) L) (N := L.length) (w0 := W0)
    (fun l J Jx W hW hJ hJx hY h0 => thoseRead 7 (by omega) l (w.heap.size + 1 + 1 + 1 + 1 + 1 + 1 + 1) (w.heap.size + 1 + 1 + 1 + 1 + 1 + 1 + 1 + 1) w.heap.size (w.heap.size + 1) W0.heap.size (w.heap.size + 1 + 1 + 1 + 1 + 1 + 1) t a A n c L J Jx W hJ hY (by omega) hW.size ((hW.cell (p := ⟨(w.heap.size + 1 + 1 + 1 + 1 + 1 + 1 + 1), 0, none⟩) (by show (w.heap.size + 1 + 1 + 1 + 1 + 1 + 1 + 1) < _; omega)).trans g7.cell) ((hW.cell (p := ⟨(w.heap.size + 1 + 1 + 1 + 1 + 1 + 1 + 1 + 1), 0, none⟩) (by show (w.heap.size + 1 + 1 + 1 + 1 + 1 + 1 + 1 + 1) < _; omega)).trans g8.cell) ((hW.cell (p := ⟨w.heap.size, 0, none⟩) (by show w.heap.size < _; omega)).trans g0.cell) ((hW.cell (p := ⟨w.heap.size + 1, 0, none⟩) (by show w.heap.size + 1 < _; omega)).trans g1.cell) (hl0.keep fun i hi => hW.block i hi.1) ⟨⟨by omega, by omega⟩, ⟨by omega, by omega⟩, ⟨by omega, by omega⟩, ⟨by omega, by omega⟩⟩ h0)
    (fun h k => h.trans k) (keepsBut_b (Nat.le_refl _)) (Below.refl _ _) (fun _ => rfl)
    (fun pre W => (∃ ns : List En, ns.map nkey = (pre.filter (fun x => decide (0 ≤ x.2))).map (fun x => nkey x.1.1) ∧ (ns = [] ∨ (ns.length : Int) ≤ mo) ∧ Got W0.heap.size (w.heap.size + 1 + 1 + 1 + 1 + 1 + 1) W0 ns W) ∧ Below w.heap.size w W)
    (fun c pre W => (c = .ret ∧ Left W0.heap.size (w.heap.size + 1 + 1 + 1 + 1) (w.heap.size + 1 + 1 + 1 + 1 + 1) 0 mo pre W) ∧ Below w.heap.size w W)
    (OwnFrom.and (fun s X Y row ⟨ns, hk, hm, hg⟩ hgr hr => ⟨ns, hk, hm, hg.step (Nat.le_refl _) hgr hr⟩) (ownFrom_below (Nat.le_refl _) (by omega)))
    (fun c => OwnFrom.and (fun s X Y row ⟨h1, h2⟩ hgr hr => ⟨h1, h2.step hgr fun r e => (hr r e).2⟩) (ownFrom_below (Nat.le_refl _) (by omega)))
    ⟨⟨[], rfl, .inl rfl, ⟨⟨_, g6, Fresh.nil _ _⟩, KeepsBut.refl _ _ _⟩⟩, kB0⟩
    (fun x a' W => ∃ Bx, W0.heap.size ≤ Bx ∧ Box13 W Bx x.1.1 ∧ a' = { tmps := #[.slice A n c, .int .i64 t, .int .i64 a, .int .i64 f, .int .i64 mo, undef, .pointer (some ⟨w.heap.size, 0, none⟩), .pointer (some ⟨(w.heap.size + 1), 0, none⟩), .pointer (some ⟨(w.heap.size + 1 + 1), 0, none⟩), .pointer (some ⟨(w.heap.size + 1 + 1 + 1), 0, none⟩), .pointer (some ⟨(w.heap.size + 1 + 1 + 1 + 1), 0, none⟩), .pointer (some ⟨(w.heap.size + 1 + 1 + 1 + 1 + 1), 0, none⟩), .pointer (some ⟨(w.heap.size + 1 + 1 + 1 + 1 + 1 + 1), 0, none⟩), .int .i64 (x.2 : Int), .pointer (some ⟨Bx, 0, none⟩), .int .i64 f, .int .i64 0, .slice A n c, .func (.func 40) #[] #[.pointer (some ⟨w.heap.size, 0, none⟩), .pointer (some ⟨(w.heap.size + 1), 0, none⟩)], .func (.func 59) #[] #[.pointer (some ⟨(w.heap.size + 1 + 1 + 1 + 1 + 1 + 1 + 1), 0, none⟩), .pointer (some ⟨(w.heap.size + 1 + 1 + 1 + 1 + 1 + 1 + 1 + 1), 0, none⟩)], .int .i64 (x.2 : Int), .agg (nc x.1.1).toArray, undef, undef, undef, undef, undef, undef, undef, undef, undef, undef, undef, undef, undef, undef, undef, undef], defers := [] })
    (fun x a' => fun _ X Y row ⟨Bx, h1, h2, h3⟩ hg hr => ⟨Bx, h1, h2.kept (hg.block Bx (Array.getElem?_eq_some_iff.1 h2).1 (not_row (fun r e => (hr r e).2) Bx ⟨_, _, h2⟩)), h3⟩)
    ?assign ?body ?done ?stop
  case assign =>
    intro l pre x W K hi hK
    obtain ⟨⟨ns, hk, hm, hg⟩, hB⟩ := hi
    obtain ⟨⟨r, hok⟩, m⟩ := x
    have hsz := hg.2.1
    simp only [encs, nc]
    have HKK := Lib.hid hK
    have HKEY := Lib.hid hk
    clear hK hk
    gi_wp2
    exact HKK.out _ _ ((KeepsOthers.alloc _ _).from _) (KeepsBut.of_below ((Below.refl _ W).alloc hsz _)) ⟨⟨ns, HKEY.out, hm, hg.step (Nat.le_refl _) (World.grownBy_alloc W _ none) (fun r e => by cases e)⟩, hB.alloc hB.size _⟩ ⟨W.heap.size, hsz, Box13.new W r, rfl⟩
  case body =>
    rintro l pre x a' W hle - ⟨⟨ns, hk, hm, ⟨⟨v, hv, hF⟩, hK⟩⟩, hB⟩ ⟨Bx, hBx, hbx, rfl⟩ hlt
    have hkA : x.2 < 0 → ns.map nkey = ((pre ++ [x]).filter (fun x => decide (0 ≤ x.2))).map (fun x => nkey x.1.1) := fun h => by
      rw [List.filter_append, List.filter_cons_of_neg (by simpa using h), List.filter_nil, List.append_nil]; exact hk
    have hkB : 0 ≤ x.2 → ∀ r', nkey r' = nkey x.1.1 → (ns ++ [r']).map nkey = ((pre ++ [x]).filter (fun x => decide (0 ≤ x.2))).map (fun x => nkey x.1.1) := fun h r' hr' => by
      rw [List.filter_append, List.filter_cons_of_pos (by simpa using h), List.filter_nil, List.map_append, List.map_append, hk, List.map_singleton, List.map_singleton, hr']
    have hkX : 0 ≤ x.2 → mo ≤ ns.length → ∀ v W5, Boxed W5 (w.heap.size + 1 + 1 + 1 + 1) 22 v → Boxed W5 (w.heap.size + 1 + 1 + 1 + 1 + 1) 4 (.bool true) → Fresh W5 W0.heap.size v ns → Left W0.heap.size (w.heap.size + 1 + 1 + 1 + 1) (w.heap.size + 1 + 1 + 1 + 1 + 1) 0 mo (pre ++ [x]) W5 := fun h h' v W5 h4 h5 h6 => ⟨v, ns, pre, x, rfl, h, hk, hm, h', h4, h5, h6⟩
    obtain ⟨⟨r, hok⟩, m⟩ := x
    obtain ⟨⟨a0, a1, a2, A1, n1, c1, ds, b0, b1, b2, b3, b4, b5⟩, void, u0, u1⟩ := r
    have hsz := hK.1
    have hnl : ns.length ≤ pre.length := by
      have := congrArg List.length hk
      simp only [List.length_map] at this
      rw [this]
      exact List.length_filter_le _ _
    obtain ⟨A', c', rfl, hc1, hc2, _⟩ := own_form hF.row
    obtain ⟨N', hN'⟩ : ∃ N', N' = ns.length := ⟨_, rfl⟩
    have hrow := hF.row
    have hN2 : N' ≤ 1000000000 := by omega
    have k2 : Boxed W (w.heap.size + 1 + 1) 3 (.int .i64 0) := (hK.2 _ (by omega) (by omega)).trans g2
    have k3 : Boxed W (w.heap.size + 1 + 1 + 1) 3 (.int .i64 mo) := (hK.2 _ (by omega) (by omega)).trans g3
    have k4 : Boxed W (w.heap.size + 1 + 1 + 1 + 1) 22 (.slice none 0 0) := (hK.2 _ (by omega) (by omega)).trans g4
    have k5 : Boxed W (w.heap.size + 1 + 1 + 1 + 1 + 1) 4 (.bool false) := (hK.2 _ (by omega) (by omega)).trans g5
    have q2 := k2.cell
    have q3 := k3.cell
    have q6 : W.cell? ⟨(w.heap.size + 1 + 1 + 1 + 1 + 1 + 1), 0, none⟩ = some (.slice A' N' c') := by rw [hN']; exact hv.cell
    by_cases h1 : m < 0
    · omega
    · have d1 : decide ((m : Int) < (0 : Int)) = false := by simp
      have d2 : decide (m < 0) = false := by simp
      by_cases hmo : mo ≤ (N' : Int)
      · have d3 : decide (mo ≤ (N' : Int)) = true := by simp; omega
        have d4 : decide ((N' : Int) ≥ mo) = true := by simp; omega
        have q4 := k4.cell
        have q5 := k5.cell
        have r4 := k4.frozen
        have r5 := k5.frozen
        obtain ⟨W5, hW5⟩ : ∃ W5, W5 = (W.setCell ⟨(w.heap.size + 1 + 1 + 1 + 1), 0, none⟩ (.slice A' N' c')).setCell ⟨(w.heap.size + 1 + 1 + 1 + 1 + 1), 0, none⟩ (.bool true) := ⟨_, rfl⟩
        have hkf : KeepsFrom W0.heap.size W W5 := by rw [hW5]; exact ((KeepsOthers.setCell _ _ _).trans (KeepsOthers.setCell _ _ _)).from _
        have hfar : ∀ i, W0.heap.size ≤ i → W5.heap[i]? = W.heap[i]? := fun i hi => by rw [hW5]; exact (Below.heap_setCell _ ⟨(w.heap.size + 1 + 1 + 1 + 1 + 1), 0, none⟩ _ i (by show i ≠ (w.heap.size + 1 + 1 + 1 + 1 + 1); omega)).trans (Below.heap_setCell _ ⟨(w.heap.size + 1 + 1 + 1 + 1), 0, none⟩ _ i (by show i ≠ (w.heap.size + 1 + 1 + 1 + 1); omega))
        have hF5 : Fresh W5 W0.heap.size (.slice A' N' c') ns := hN' ▸ hF.keep (by rw [hW5]; simp) fun i hi _ _ => hfar i hi
        have hB5 : Below w.heap.size w W5 := by rw [hW5]; exact (hB.setCell (p := ⟨(w.heap.size + 1 + 1 + 1 + 1), 0, none⟩) (by show w.heap.size ≤ (w.heap.size + 1 + 1 + 1 + 1); omega) _).setCell (p := ⟨(w.heap.size + 1 + 1 + 1 + 1 + 1), 0, none⟩) (by show w.heap.size ≤ (w.heap.size + 1 + 1 + 1 + 1 + 1); omega) _
        have hX := hkX (by show 0 ≤ m; omega) (by omega) (.slice A' N' c') W5 (by rw [hW5]; exact (k4.set _).other (by omega) _) (by rw [hW5]; exact (k5.other (by omega) _).set _) hF5
        have HX := Lib.hid hX
        have HW5 := Lib.hid hW5
        clear hkA hkB hkX hk hv hF hK hrow hN' hnl hbx hlt h1 hL hLn hn₀ k2 k3 k4 k5 hX hW5 hfar hF5
        simp only [nc]
        gi_wp2
        rw [← HW5.out]
        exact ⟨hkf, ⟨rfl, HX.out⟩, hB5⟩
      · have d3 : decide (mo ≤ (N' : Int)) = false := by simp; omega
        have d4 : decide ((N' : Int) ≥ mo) = false := by simp; omega
        obtain ⟨Wd, hWd⟩ : ∃ Wd, Wd = W.drew := ⟨_, rfl⟩
        have hsd : Wd.heap.size = W.heap.size := by rw [hWd]; rfl
        have kd : Below W.heap.size W Wd := by rw [hWd]; exact (Below.refl _ _).drew
        have hn₀d : n₀ ≤ Wd.heap.size := by omega
        have hT : Calls Try.prog 41 #[.agg (nc ⟨⟨a0, a1, a2, A1, n1, c1, ds, b0, b1, b2, b3, b4, b5⟩, void, u0, u1⟩).toArray] Wd fun e w' => ∃ r', e = .returned (.agg (nc r').toArray) ∧ nkey r' = nkey ⟨⟨a0, a1, a2, A1, n1, c1, ds, b0, b1, b2, b3, b4, b5⟩, void, u0, u1⟩ ∧ EvR w' (New W w') r'.e ∧ r'.e.n ≤ 1099511627000 ∧ Below Wd.heap.size Wd w' := by
          refine (copyOf_any ⟨⟨a0, a1, a2, A1, n1, c1, ds, b0, b1, b2, b3, b4, b5⟩, void, u0, u1⟩ (fun i => i < W0.heap.size ∧ i ≠ (w.heap.size + 1 + 1 + 1 + 1 + 1 + 1)) Wd (hok.1.keep fun i hi => (kd.block i (by omega)).trans (hK.2 i hi.1 hi.2)) (fun i hi => by omega) hok.2).mono ?_
          rintro e w' ⟨r', h1, h2, h3, h4, h5⟩
          exact ⟨r', h1, h2, h3.more fun i hi => ⟨by have := hi.1; omega, hi.2⟩, h4 ▸ hok.2, h5⟩
        have hD : ∀ Wx, Below Wd.heap.size Wd Wx → Wx.cell? ⟨(w.heap.size + 1 + 1 + 1 + 1 + 1 + 1), 0, none⟩ = some (.slice A' N' c') ∧ Wx.frozen? ⟨(w.heap.size + 1 + 1 + 1 + 1 + 1 + 1), 0, none⟩ = false ∧ Wx.ownsRow n₀ 39 13 (.slice A' N' c') N' (ns.flatMap nc) := fun Wx hx => by
          have hx2 : Below W.heap.size W Wx := kd.trans (hsd ▸ hx)
          have hvx : Boxed Wx (w.heap.size + 1 + 1 + 1 + 1 + 1 + 1) 22 (.slice A' N' c') := hN' ▸ (hx2.block _ hv.lt).trans hv
          exact ⟨hvx.cell, hvx.frozen, by rw [hN', hn₀]; exact own_below hrow hx2⟩
        have hG : ∀ W2 w3 r' g cap, Below Wd.heap.size Wd W2 → EvR W2 (New W W2) r'.e → r'.e.n ≤ 1099511627000 → w3.ownsRow n₀ 39 13 (.slice (some ⟨g, 0, none⟩) (N' + 1) cap) (N' + 1) (ns.flatMap nc ++ nc r') → W2.grownBy w3 (Value.slice A' N' c').ownBlock → ((Value.slice A' N' c').ownBlock = some g ∨ W2.heap.size ≤ g) →
            w3.cell? ⟨(w.heap.size + 1 + 1 + 1 + 1 + 1 + 1), 0, none⟩ = some (.slice A' N' c') ∧ w3.frozen? ⟨(w.heap.size + 1 + 1 + 1 + 1 + 1 + 1), 0, none⟩ = false ∧ (KeepsFrom W0.heap.size W (w3.setCell ⟨(w.heap.size + 1 + 1 + 1 + 1 + 1 + 1), 0, none⟩ (.slice (some ⟨g, 0, none⟩) (N' + 1) cap)) ∧ KeepsBut W0.heap.size (w.heap.size + 1 + 1 + 1 + 1 + 1 + 1) W (w3.setCell ⟨(w.heap.size + 1 + 1 + 1 + 1 + 1 + 1), 0, none⟩ (.slice (some ⟨g, 0, none⟩) (N' + 1) cap)) ∧
              Got W0.heap.size (w.heap.size + 1 + 1 + 1 + 1 + 1 + 1) W0 (ns ++ [r']) (w3.setCell ⟨(w.heap.size + 1 + 1 + 1 + 1 + 1 + 1), 0, none⟩ (.slice (some ⟨g, 0, none⟩) (N' + 1) cap)) ∧ Below (w.heap.size + 1 + 1 + 1 + 1 + 1 + 1) W (w3.setCell ⟨(w.heap.size + 1 + 1 + 1 + 1 + 1 + 1), 0, none⟩ (.slice (some ⟨g, 0, none⟩) (N' + 1) cap))) := by
          intro W2 w3 r' g cap h2 her hen ho hgr hat
          subst hN' hn₀
          exact got_push hsz (by omega) hv hF hK (kd.trans (hsd ▸ h2)) her hen ho hgr hat
        have hcells : ∀ j u, (nc ⟨⟨a0, a1, a2, A1, n1, c1, ds, b0, b1, b2, b3, b4, b5⟩, void, u0, u1⟩)[j]? = some u → Wd.cell? ⟨Bx, j, none⟩ = some u := fun j u hu => by
          rw [hWd]; exact (cell_drew_own _ _).trans (hbx.cell j u hu)
        have x0 := hcells 0 _ rfl
        have x1 := hcells 1 _ rfl
        have x2 := hcells 2 _ rfl
        have x3 := hcells 3 _ rfl
        have x4 := hcells 4 _ rfl
        have x5 := hcells 5 _ rfl
        have x6 := hcells 6 _ rfl
        have x7 := hcells 7 _ rfl
        have x8 := hcells 8 _ rfl
        have x9 := hcells 9 _ rfl
        have x10 := hcells 10 _ rfl
        have x11 := hcells 11 _ rfl
        have x12 := hcells 12 _ rfl
        simp only [nc] at hT
        have hk2 := hkB (by show 0 ≤ m; omega)
        have hB' : Below w.heap.size w W := hB
        have hm' : ((N' : Int) + 1) ≤ mo := by omega
        have hlen2 : ∀ r' : En, (ns ++ [r']).length = N' + 1 := fun r' => by rw [List.length_append, ← hN']; rfl
        have HLEN := Lib.hid hlen2
        have T := Lib.hid hT
        have D := Lib.hid hD
        have G := Lib.hid hG
        have HKEY := Lib.hid hk2
        have HB := Lib.hid hB'
        clear hkA hkB hkX hT hD hG hk hB' hB hv hF hK hrow hbx hcells hN' hnl hsd hl0 hL hLn hl hf hc1 hc2 HW0 hn₀ hk2 hlen2 k2 k3 k4 k5 g0 g1 g2 g3 g4 g5 g6 g7 g8
        simp only [nc]
        gi_wp2
        refine wpIn_region_any (by kernel_rfl) ?_
        change wpAnyIn _ _ _ _ _ _ _ _ _ (World.drew _)
        rw [← hWd]
        clear hWd
        refine wpAnyIn_ready (rs := [0, 1]) (by kernel_rfl) (by simp) ?_
        refine AllReadyIn.cons rfl (fun K hK => ?_) (AllReadyIn.cons rfl (fun K hK => ?_) AllReadyIn.nil)
        · skip
          have q0 := (D.out _ (Below.refl _ _)).1
          go_simp
          refine hK _ _ ?_
          clear hK K
          clear q0
          refine wpAnyIn_ready (rs := [1]) (by kernel_rfl) (by simp) ?_
          refine AllReadyIn.cons rfl (fun K hK => ?_) AllReadyIn.nil
          go_simp
          refine hK _ _ ?_
          clear hK K
          refine wpAnyIn_ready (rs := [2]) (by kernel_rfl) (by simp) ?_
          refine AllReadyIn.cons rfl (fun K hK => ?_) AllReadyIn.nil
          go_simp
          gi_wp2_with (refine ⟨trivial, ?_⟩; refine (CallsIn.inRound l (callsIn_wide.2 T.out)).mono ?_; rintro e W2 ⟨r', rfl, hkr, her, hen, hb2⟩; simp only [nc])
          have hb2d := hb2
          refine wpAnyIn_ready (rs := [3]) (by kernel_rfl) (by simp) ?_
          refine AllReadyIn.cons rfl (fun K hK => ?_) AllReadyIn.nil
          go_simp
          refine hK _ _ ?_
          clear hK K
          refine wpAnyIn_ready (rs := [4]) (by kernel_rfl) (by simp) ?_
          refine AllReadyIn.cons rfl (fun K hK => ?_) AllReadyIn.nil
          refine stepIn_app1 W2 #[.int .i64 r'.e.a0, .int .i64 r'.e.a1, .int .i64 r'.e.a2, (.slice r'.e.A r'.e.n r'.e.c), .int .i64 r'.e.b0, .int .i64 r'.e.b1, .int .i64 r'.e.b2, .int .i64 r'.e.b3, .int .i64 r'.e.b4, .int .i64 r'.e.b5, .bool r'.void, .int .i64 r'.y0, .int .i64 r'.y1] rfl (.tmp 22) (.tmp 25) 22 rfl n₀ 39 (.agg (nc zeroEn).toArray) 13 120 Try.underlying22 infoEn rfl (by decide) (.slice A' N' c') N' (ns.flatMap nc) ((D.out _ hb2).2.2) (by simp [Act.eval, Act.put]) (by simp [Act.eval, Act.put]) rfl (fun u hu => ncs_one [r'] u (by simpa [nc] using hu)) (by omega) (by omega) (Nat.le_trans hn₀d hb2.size) ?_
          intro g cap w3 hown3 hgr3 hB3 hat3 hlt3
          refine hK _ _ ?_
          clear hK K
          obtain ⟨hc3, hf3, hend⟩ := G.out W2 w3 r' g cap hb2 her (by omega) hown3 hgr3 hat3
          refine wpAnyIn_ready (rs := [5]) (by kernel_rfl) (by simp) ?_
          refine AllReadyIn.cons rfl (fun K hK => ?_) AllReadyIn.nil
          go_simp
          refine hK _ _ ?_
          clear hK K
          refine wpAnyIn_done (by kernel_rfl) ?_ _
          exact ⟨hend.1, hend.2.1, ⟨ns ++ [r'], HKEY.out r' hkr, .inr (by rw [HLEN.out]; omega), hend.2.2.1⟩, HB.out.trans (hend.2.2.2.mono (by omega))⟩
        · skip
          go_simp
          refine hK _ _ ?_
          clear hK K
          refine wpAnyIn_ready (rs := [0, 2]) (by kernel_rfl) (by simp) ?_
          refine AllReadyIn.cons rfl (fun K hK => ?_) (AllReadyIn.cons rfl (fun K hK => ?_) AllReadyIn.nil)
          · skip
            have q0 := (D.out _ (Below.refl _ _)).1
            go_simp
            refine hK _ _ ?_
            clear hK K
            clear q0
            refine wpAnyIn_ready (rs := [2]) (by kernel_rfl) (by simp) ?_
            refine AllReadyIn.cons rfl (fun K hK => ?_) AllReadyIn.nil
            go_simp
            gi_wp2_with (refine ⟨trivial, ?_⟩; refine (CallsIn.inRound l (callsIn_wide.2 T.out)).mono ?_; rintro e W2 ⟨r', rfl, hkr, her, hen, hb2⟩; simp only [nc])
            have hb2d := hb2
            refine wpAnyIn_ready (rs := [3]) (by kernel_rfl) (by simp) ?_
            refine AllReadyIn.cons rfl (fun K hK => ?_) AllReadyIn.nil
            go_simp
            refine hK _ _ ?_
            clear hK K
            refine wpAnyIn_ready (rs := [4]) (by kernel_rfl) (by simp) ?_
            refine AllReadyIn.cons rfl (fun K hK => ?_) AllReadyIn.nil
            refine stepIn_app1 W2 #[.int .i64 r'.e.a0, .int .i64 r'.e.a1, .int .i64 r'.e.a2, (.slice r'.e.A r'.e.n r'.e.c), .int .i64 r'.e.b0, .int .i64 r'.e.b1, .int .i64 r'.e.b2, .int .i64 r'.e.b3, .int .i64 r'.e.b4, .int .i64 r'.e.b5, .bool r'.void, .int .i64 r'.y0, .int .i64 r'.y1] rfl (.tmp 22) (.tmp 25) 22 rfl n₀ 39 (.agg (nc zeroEn).toArray) 13 120 Try.underlying22 infoEn rfl (by decide) (.slice A' N' c') N' (ns.flatMap nc) ((D.out _ hb2).2.2) (by simp [Act.eval, Act.put]) (by simp [Act.eval, Act.put]) rfl (fun u hu => ncs_one [r'] u (by simpa [nc] using hu)) (by omega) (by omega) (Nat.le_trans hn₀d hb2.size) ?_
            intro g cap w3 hown3 hgr3 hB3 hat3 hlt3
            refine hK _ _ ?_
            clear hK K
            obtain ⟨hc3, hf3, hend⟩ := G.out W2 w3 r' g cap hb2 her (by omega) hown3 hgr3 hat3
            refine wpAnyIn_ready (rs := [5]) (by kernel_rfl) (by simp) ?_
            refine AllReadyIn.cons rfl (fun K hK => ?_) AllReadyIn.nil
            go_simp
            refine hK _ _ ?_
            clear hK K
            refine wpAnyIn_done (by kernel_rfl) ?_ _
            exact ⟨hend.1, hend.2.1, ⟨ns ++ [r'], HKEY.out r' hkr, .inr (by rw [HLEN.out]; omega), hend.2.2.1⟩, HB.out.trans (hend.2.2.2.mono (by omega))⟩
          · skip
            go_simp
            gi_wp2_with (refine ⟨trivial, ?_⟩; refine (CallsIn.inRound l (callsIn_wide.2 T.out)).mono ?_; rintro e W2 ⟨r', rfl, hkr, her, hen, hb2⟩; simp only [nc])
            have hb2d := hb2
            refine wpAnyIn_ready (rs := [0, 3]) (by kernel_rfl) (by simp) ?_
            refine AllReadyIn.cons rfl (fun K hK => ?_) (AllReadyIn.cons rfl (fun K hK => ?_) AllReadyIn.nil)
            · skip
              have q0 := (D.out _ hb2d).1
              go_simp
              refine hK _ _ ?_
              clear hK K
              clear q0
              refine wpAnyIn_ready (rs := [3]) (by kernel_rfl) (by simp) ?_
              refine AllReadyIn.cons rfl (fun K hK => ?_) AllReadyIn.nil
              go_simp
              refine hK _ _ ?_
              clear hK K
              refine wpAnyIn_ready (rs := [4]) (by kernel_rfl) (by simp) ?_
              refine AllReadyIn.cons rfl (fun K hK => ?_) AllReadyIn.nil
              refine stepIn_app1 W2 #[.int .i64 r'.e.a0, .int .i64 r'.e.a1, .int .i64 r'.e.a2, (.slice r'.e.A r'.e.n r'.e.c), .int .i64 r'.e.b0, .int .i64 r'.e.b1, .int .i64 r'.e.b2, .int .i64 r'.e.b3, .int .i64 r'.e.b4, .int .i64 r'.e.b5, .bool r'.void, .int .i64 r'.y0, .int .i64 r'.y1] rfl (.tmp 22) (.tmp 25) 22 rfl n₀ 39 (.agg (nc zeroEn).toArray) 13 120 Try.underlying22 infoEn rfl (by decide) (.slice A' N' c') N' (ns.flatMap nc) ((D.out _ hb2).2.2) (by simp [Act.eval, Act.put]) (by simp [Act.eval, Act.put]) rfl (fun u hu => ncs_one [r'] u (by simpa [nc] using hu)) (by omega) (by omega) (Nat.le_trans hn₀d hb2.size) ?_
              intro g cap w3 hown3 hgr3 hB3 hat3 hlt3
              refine hK _ _ ?_
              clear hK K
              obtain ⟨hc3, hf3, hend⟩ := G.out W2 w3 r' g cap hb2 her (by omega) hown3 hgr3 hat3
              refine wpAnyIn_ready (rs := [5]) (by kernel_rfl) (by simp) ?_
              refine AllReadyIn.cons rfl (fun K hK => ?_) AllReadyIn.nil
              go_simp
              refine hK _ _ ?_
              clear hK K
              refine wpAnyIn_done (by kernel_rfl) ?_ _
              exact ⟨hend.1, hend.2.1, ⟨ns ++ [r'], HKEY.out r' hkr, .inr (by rw [HLEN.out]; omega), hend.2.2.1⟩, HB.out.trans (hend.2.2.2.mono (by omega))⟩
            · skip
              go_simp
              refine hK _ _ ?_
              clear hK K
              refine wpAnyIn_ready (rs := [0]) (by kernel_rfl) (by simp) ?_
              refine AllReadyIn.cons rfl (fun K hK => ?_) AllReadyIn.nil
              have q0 := (D.out _ (hb2.alloc hb2.size (.cells #[.int .i64 r'.e.a0, .int .i64 r'.e.a1, .int .i64 r'.e.a2, (.slice r'.e.A r'.e.n r'.e.c), .int .i64 r'.e.b0, .int .i64 r'.e.b1, .int .i64 r'.e.b2, .int .i64 r'.e.b3, .int .i64 r'.e.b4, .int .i64 r'.e.b5, .bool r'.void, .int .i64 r'.y0, .int .i64 r'.y1] 39))).1
              go_simp
              refine hK _ _ ?_
              clear hK K
              clear q0
              refine wpAnyIn_ready (rs := [4]) (by kernel_rfl) (by simp) ?_
              refine AllReadyIn.cons rfl (fun K hK => ?_) AllReadyIn.nil
              refine stepIn_app1 W2 #[.int .i64 r'.e.a0, .int .i64 r'.e.a1, .int .i64 r'.e.a2, (.slice r'.e.A r'.e.n r'.e.c), .int .i64 r'.e.b0, .int .i64 r'.e.b1, .int .i64 r'.e.b2, .int .i64 r'.e.b3, .int .i64 r'.e.b4, .int .i64 r'.e.b5, .bool r'.void, .int .i64 r'.y0, .int .i64 r'.y1] rfl (.tmp 22) (.tmp 25) 22 rfl n₀ 39 (.agg (nc zeroEn).toArray) 13 120 Try.underlying22 infoEn rfl (by decide) (.slice A' N' c') N' (ns.flatMap nc) ((D.out _ hb2).2.2) (by simp [Act.eval, Act.put]) (by simp [Act.eval, Act.put]) rfl (fun u hu => ncs_one [r'] u (by simpa [nc] using hu)) (by omega) (by omega) (Nat.le_trans hn₀d hb2.size) ?_
              intro g cap w3 hown3 hgr3 hB3 hat3 hlt3
              refine hK _ _ ?_
              clear hK K
              obtain ⟨hc3, hf3, hend⟩ := G.out W2 w3 r' g cap hb2 her (by omega) hown3 hgr3 hat3
              refine wpAnyIn_ready (rs := [5]) (by kernel_rfl) (by simp) ?_
              refine AllReadyIn.cons rfl (fun K hK => ?_) AllReadyIn.nil
              go_simp
              refine hK _ _ ?_
              clear hK K
              refine wpAnyIn_done (by kernel_rfl) ?_ _
              exact ⟨hend.1, hend.2.1, ⟨ns ++ [r'], HKEY.out r' hkr, .inr (by rw [HLEN.out]; omega), hend.2.2.1⟩, HB.out.trans (hend.2.2.2.mono (by omega))⟩
  case done =>
    rintro D ys W hD rfl ⟨⟨ns, hk, hm, ⟨⟨v, hv, hF⟩, hKB⟩⟩, hB⟩ hK
    obtain ⟨A', c', hveq, _⟩ := own_form hF.row
    subst hveq
    have k4 : Boxed W (w.heap.size + 1 + 1 + 1 + 1) 22 (.slice none 0 0) := (hKB.2 _ (by omega) (by omega)).trans g4
    have k5 : Boxed W (w.heap.size + 1 + 1 + 1 + 1 + 1) 4 (.bool false) := (hKB.2 _ (by omega) (by omega)).trans g5
    rw [hits_from _ _ 0, hL] at hk
    obtain ⟨e1, e2⟩ := more_no (D := []) (F := 0) hk hm
    have E1 := Lib.hid e1
    have E2 := Lib.hid e2
    have hc := hv.cell
    have q4 := k4.cell
    have q5 := k5.cell
    have r4 := k4.frozen
    have r5 := k5.frozen
    obtain ⟨W5, hW5⟩ : ∃ W5, W5 = (W.setCell ⟨(w.heap.size + 1 + 1 + 1 + 1), 0, none⟩ (.slice A' ns.length c')).setCell ⟨(w.heap.size + 1 + 1 + 1 + 1 + 1), 0, none⟩ (.bool false) := ⟨_, rfl⟩
    have s4 : Boxed W5 (w.heap.size + 1 + 1 + 1 + 1) 22 (.slice A' ns.length c') := by rw [hW5]; exact (k4.set _).other (by omega) _
    have s5 : Boxed W5 (w.heap.size + 1 + 1 + 1 + 1 + 1) 4 (.bool false) := by rw [hW5]; exact (k5.other (by omega) _).set _
    have hK' : W5.heap[D]? = some (.deferred (some [])) := by
      rw [hW5]; exact (Below.heap_setCell _ ⟨(w.heap.size + 1 + 1 + 1 + 1 + 1), 0, none⟩ _ D (by show D ≠ (w.heap.size + 1 + 1 + 1 + 1 + 1); omega)).trans ((Below.heap_setCell _ ⟨(w.heap.size + 1 + 1 + 1 + 1), 0, none⟩ _ D (by show D ≠ (w.heap.size + 1 + 1 + 1 + 1); omega)).trans hK)
    have hfar : ∀ i, W0.heap.size ≤ i → W5.heap[i]? = W.heap[i]? := fun i hi => by rw [hW5]; exact (Below.heap_setCell _ ⟨(w.heap.size + 1 + 1 + 1 + 1 + 1), 0, none⟩ _ i (by show i ≠ (w.heap.size + 1 + 1 + 1 + 1 + 1); omega)).trans (Below.heap_setCell _ ⟨(w.heap.size + 1 + 1 + 1 + 1), 0, none⟩ _ i (by show i ≠ (w.heap.size + 1 + 1 + 1 + 1); omega))
    have hF5 : Fresh W5 W0.heap.size (.slice A' ns.length c') ns := hF.keep (by rw [hW5]; simp) fun i hi _ _ => hfar i hi
    have hB5 : Below w.heap.size w W5 := by rw [hW5]; exact (hB.setCell (p := ⟨(w.heap.size + 1 + 1 + 1 + 1), 0, none⟩) (by show w.heap.size ≤ (w.heap.size + 1 + 1 + 1 + 1); omega) _).setCell (p := ⟨(w.heap.size + 1 + 1 + 1 + 1 + 1), 0, none⟩) (by show w.heap.size ≤ (w.heap.size + 1 + 1 + 1 + 1 + 1); omega) _
    have hgr := grownBy_putObj' W5 D (Obj.deferred none)
    have hrr : ∀ r, some D = some r → ∃ o : Obj, W5.heap[r]? = some o ∧ o.isCells = false := fun r e => by cases e; exact ⟨_, hK', rfl⟩
    have hF6 := (hF5.step hgr hrr).base (n₁ := w.heap.size) (by omega)
    have p4 := (boxed_step s4 hgr hrr).cell
    have p5 := (boxed_step s5 hgr hrr).cell
    have hB6 := hB5.trans (belowK_b (w := w) (Nat.le_refl _) W5 D _ (.deferred none) (by omega) hK' rfl rfl)
    have HW5 := Lib.hid hW5
    clear hk hv hF hKB hB k4 k5 hW5 hfar hF5 hB5 e1 e2 s4 s5 hgr hrr g0 g1 g2 g3 g4 g5 g6 g7 g8 hK
    gi_wp2
    rw [← HW5.out]
    refine ⟨by simp, .inl ⟨_, _, rfl, run_takeDeferred hK', ?_⟩⟩
    refine ⟨.tuple #[.slice A' ns.length c', .bool false], ?_, _, ns, by rw [E1.out], E2.out, hF6, hB6⟩
    simp [results, Try.f17, go_sem, p4, p5]
  case stop =>
    rintro D c' pre W hD hSp ⟨⟨rfl, v, ns, pre', x, rfl, hx, hk, hm, hge, s4, s5, hF⟩, hB⟩ hK
    have hpx : ns.map nkey ++ [nkey x.1.1] <+: (((L.map Subtype.val).filter (readIs t a)).drop 0).map nkey := by
      have h1 := (hSp.filter (fun x => decide (0 ≤ x.2))).map (fun x => nkey x.1.1)
      rw [hits_from _ _ 0, List.filter_append, List.filter_cons_of_pos (by simpa using hx), List.filter_nil, List.map_append, ← hk] at h1
      exact h1
    rw [hL] at hpx
    obtain ⟨e1, e2⟩ := more_yes hpx hm hge
    obtain ⟨A', c', hveq, _⟩ := own_form hF.row
    subst hveq
    have E1 := Lib.hid e1
    have E2 := Lib.hid e2
    have hgr := grownBy_putObj' W D (Obj.deferred none)
    have hrr : ∀ r, some D = some r → ∃ o : Obj, W.heap[r]? = some o ∧ o.isCells = false := fun r e => by cases e; exact ⟨_, hK, rfl⟩
    have hF6 := (hF.step hgr hrr).base (n₁ := w.heap.size) (by omega)
    have p4 := (boxed_step s4 hgr hrr).cell
    have p5 := (boxed_step s5 hgr hrr).cell
    have hB6 := hB.trans (belowK_b (w := w) (Nat.le_refl _) W D _ (.deferred none) (by omega) hK rfl rfl)
    clear hk hF hB e1 e2 s4 s5 hgr hrr g0 g1 g2 g3 g4 g5 g6 g7 g8 hpx hSp
    gi_wp2
    refine ⟨by simp, .inl ⟨_, _, rfl, run_takeDeferred hK, ?_⟩⟩
    refine ⟨.tuple #[.slice A' ns.length c', .bool true], ?_, _, ns, by rw [E1.out], E2.out, hF6, hB6⟩
    simp [results, Try.f17, go_sem, p4, p5]
theorem strRead_any (P : Nat → Prop) (A : Option Addr) (n c : Nat) (l : List En) (t a f mo : Int) (w : World) (hl : RL w P A n l) (hP : ∀ i, P i → i < w.heap.size) (hn : n ≤ 1000000000) (hf : ∀ r ∈ l, r.e.n ≤ 1099511627000) :
    Calls Try.prog 17 #[.slice A n c, .int .i64 t, .int .i64 a, .int .i64 f, .int .i64 mo] w fun e w' => ∃ v ns, e = .returned (.tuple #[v, .bool (decide (f.toNat + mo.toNat < (l.filter (readIs t a)).length))]) ∧ ns.map nkey = (((l.filter (readIs t a)).drop f.toNat).take mo.toNat).map nkey ∧ Fresh w' w.heap.size v ns ∧ Below w.heap.size w w' := by
  by_cases h : f < 0
  · have := strReadN_any P A n c l t a f mo w h hl hP hn hf
    rwa [show f.toNat = 0 by omega]
  · have := strReadP_any P A n c l t a mo f.toNat w hl hP hn hf
    rwa [show ((f.toNat : Nat) : Int) = f by omega] at this
end Go.Proofs.Ytcidmlpjobdakaa
