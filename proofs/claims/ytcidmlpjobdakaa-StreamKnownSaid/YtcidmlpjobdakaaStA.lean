/- The iterator as a contract; the region that copies an entry and grows a row; stream.Voided. -/
import Derived.Test.YtcidmlpjobdakaaEnC
import Derived.Test.YtcidmlpjobdakaaSpC
namespace Go.Proofs.Ytcidmlpjobdakaa
set_option linter.unusedSimpArgs false
set_option linter.unusedVariables false
set_option linter.unnecessarySimpa false
open Go.RowKit Go.Shelf
attribute [local go_sem] Oper.semAt_some

set_option maxHeartbeats 400000 in
theorem those_any (A : Option Addr) (n c : Nat) (g : Fn) (bs lb : Array Value) (w : World) :
    Calls Try.prog 39 #[.slice A n c, .func g bs lb] w fun e w' => e = .returned (.func (.func 59) #[] #[.pointer (some ⟨w.heap.size, 0, none⟩), .pointer (some ⟨w.heap.size + 1, 0, none⟩)]) ∧ w' = (w.alloc (.cells #[.slice A n c] 22)).alloc (.cells #[.func g bs lb] 66) := by
  go_enter Try.func39, Try.ntmps39
  go_wp2
  go_ret
  exact ⟨rfl, rfl⟩


/-- An entry in a box of its own. -/
def Box13 (W : World) (B : Nat) (r : En) : Prop := W.heap[B]? = some (.cells (nc r).toArray 39 (0, 0))
theorem Box13.cell {W : World} {B : Nat} {r : En} (h : Box13 W B r) (j : Nat) (u : Value) (hu : (nc r)[j]? = some u) : W.cell? ⟨B, j, none⟩ = some u := by
  unfold Box13 at h
  simp [World.cell?, h, hu]
theorem Box13.kept {W W' : World} {B : Nat} {r : En} (h : Box13 W B r) (hh : W'.heap[B]? = W.heap[B]?) : Box13 W' B r := hh.trans h
theorem Box13.new (W : World) (r : En) : Box13 (W.alloc (.cells (nc r).toArray 39)) W.heap.size r := World.alloc_heap_new W _

/-- What an entry must be, where the loop begins. -/
def OkAt (w : World) (P : Nat → Prop) (r : En) : Prop := EvR w P r.e ∧ r.e.n ≤ 1099511627000
/-- What lies in out between two rounds. -/
def Got (n₀ B : Nat) (w0 : World) (ns : List En) (W : World) : Prop := (∃ v, Boxed W B 22 v ∧ Fresh W n₀ v ns) ∧ KeepsBut n₀ B w0 W
theorem Got.step {n₀ B : Nat} {w0 : World} (hn : n₀ ≤ w0.heap.size) {ns : List En} {X Y : World} {row : Option Nat} (h : Got n₀ B w0 ns X) (hg : X.grownBy Y row) (hr : ∀ r, row = some r → n₀ ≤ r ∧ ∃ o : Obj, X.heap[r]? = some o ∧ o.isCells = false) : Got n₀ B w0 ns Y := by
  obtain ⟨⟨v, hv, hF⟩, hK⟩ := h
  have hne : ∀ i, CellsAt X i → some i ≠ row := fun i hi e => by
    obtain ⟨_, o, ho, hc⟩ := hr i e.symm
    obtain ⟨cur, t, h1⟩ := hi
    rw [h1] at ho
    cases ho
    cases hc
  refine ⟨⟨v, hv.kept hg (hne B ⟨_, _, hv⟩), hF.keep hg.size fun i _ hi hc => hg.block i hi (hne i hc)⟩, Nat.le_trans hK.1 hg.size, fun i h1 h2 => ?_⟩
  have hi : i < X.heap.size := by have := hK.1; omega
  exact (hg.block i hi (fun e => by have := (hr i e.symm).1; omega)).trans (hK.2 i h1 h2)
theorem got_push {n₀ B C : Nat} {w0 W W2 w3 : World} {v : Value} {ns : List En} {r : En} {g cap : Nat} (hn₀ : n₀ ≤ W.heap.size) (hB : B < n₀) (hv : Boxed W B 22 v) (hF : Fresh W n₀ v ns) (hK : KeepsBut n₀ B w0 W)
    (h2 : Below W.heap.size W W2) (hr : EvR W2 (New W W2) r.e) (hf : r.e.n ≤ 1099511627000) (ho : w3.ownsRow n₀ 39 13 (.slice (some ⟨g, 0, none⟩) (ns.length + 1) cap) (ns.length + 1) (ns.flatMap nc ++ nc r)) (hgr : W2.grownBy w3 v.ownBlock) (hat : v.ownBlock = some g ∨ W2.heap.size ≤ g) :
    w3.cell? ⟨B, 0, none⟩ = some v ∧ w3.frozen? ⟨B, 0, none⟩ = false ∧ (KeepsFrom C W (w3.setCell ⟨B, 0, none⟩ (.slice (some ⟨g, 0, none⟩) (ns.length + 1) cap)) ∧ KeepsBut n₀ B W (w3.setCell ⟨B, 0, none⟩ (.slice (some ⟨g, 0, none⟩) (ns.length + 1) cap)) ∧
      Got n₀ B w0 (ns ++ [r]) (w3.setCell ⟨B, 0, none⟩ (.slice (some ⟨g, 0, none⟩) (ns.length + 1) cap)) ∧ Below B W (w3.setCell ⟨B, 0, none⟩ (.slice (some ⟨g, 0, none⟩) (ns.length + 1) cap))) := by
  have hte : (22 : TypeId) ≠ 39 := by decide
  have hvne := hv.not_row hte hF.row
  have z2 := h2.size
  have z3 := hgr.size
  have hv2 : Boxed W2 B 22 v := (h2.block B hv.lt).trans hv
  have hv3 : Boxed w3 B 22 v := hv2.kept hgr hvne
  have hF3 := hF.push hn₀ h2 hr hf ho hgr hat
  obtain ⟨W', hW'⟩ : ∃ W', W' = w3.setCell ⟨B, 0, none⟩ (.slice (some ⟨g, 0, none⟩) (ns.length + 1) cap) := ⟨_, rfl⟩
  have hs : W'.heap.size = w3.heap.size := by rw [hW']; simp
  have hfar : ∀ i, i ≠ B → W'.heap[i]? = w3.heap[i]? := fun i hi => by rw [hW']; exact Below.heap_setCell _ ⟨B, 0, none⟩ _ i hi
  have hb0 : Below 0 w3 W' := by rw [hW']; exact (Below.refl 0 _).setCell (p := ⟨B, 0, none⟩) (Nat.zero_le _) _
  have hrow : ∀ i, some i = v.ownBlock → n₀ ≤ i ∧ CellsAt W i := fun i e => ⟨(hF.row.lt i e.symm).1, own_cellsAt hF.row e.symm⟩
  have hkeep : ∀ i, i < W.heap.size → i ≠ B → some i ≠ v.ownBlock → W'.heap[i]? = W.heap[i]? := fun i h1 h3 h4 => (hfar i h3).trans ((hgr.block i (by omega) h4).trans (h2.block i h1))
  have hKB : KeepsBut n₀ B W W' := ⟨by omega, fun i h1 h3 => hkeep i (by omega) h3 (fun e => by have := (hrow i e).1; omega)⟩
  refine ⟨hv3.cell, hv3.frozen, ?_⟩
  rw [← hW']
  refine ⟨⟨by omega, fun k o _ hk ho => ?_⟩, hKB, ⟨⟨_, by rw [hW']; exact hv3.set _, hF3.keep (by omega) fun i h1 _ _ => hfar i (by omega)⟩, hK.trans hKB⟩, ⟨hb0.os.trans (hgr.os.trans h2.os), hb0.tape.trans (hgr.tape.trans h2.tape), hb0.output.trans (hgr.output.trans h2.output), by omega, fun i h1 => hKB.2 i (by omega) (by omega)⟩⟩
  refine (hkeep k (Array.getElem?_eq_some_iff.1 hk).1 (fun e => ?_) (fun e => ?_)).trans hk
  · rw [e, show W.heap[B]? = _ from hv] at hk
    cases hk; cases ho
  · obtain ⟨cur, t, h1⟩ := (hrow k e).2
    rw [h1] at hk
    cases hk; cases ho

theorem stepIn_app1 {P : Program} {l m : Nat} (w : World) (cs : Array Value) {ops : Array Oper} {o : Oper} {a : Act} {K : Act → World → Prop} {Q : Exit → Act → World → Prop} {E : Prop} (hgd : o.guard = none) (s x : Operand) (t : TypeId)
    (ho : o.op = .call { callee := .builtin .append, args := #[s, x], argTypes := #[t, t] })
    (base : Nat) (e : TypeId) (z : Value) (size bytes : Nat) (ht : P.underlying t = some (.slice e)) (hi : (P.info? e).map (fun i => (i.zero, i.size, i.bytes)) = some (some z, size, bytes))
    (hzs : z.cells.size = size) (hsz : 0 < size)
    (v : Value) (n : Nat) (xs : List Value) (hown : w.ownsRow base e size v n xs) (hs : a.eval s = v) (hx : a.eval x = .slice (some ⟨w.heap.size, 0, none⟩) 1 1)
    (hl : cs.size = size) (h1 : ∀ u ∈ cs.toList, u.oneCell' = true) (h63 : n + 1 ≤ 9223372036854775807) (hbytes : (n + 1) * bytes ≤ 140737488355328) (hbase : base ≤ w.heap.size)
    (h : ∀ g cap w', w'.ownsRow base e size (.slice (some ⟨g, 0, none⟩) (n + 1) cap) (n + 1) (xs ++ cs.toList) → w.grownBy w' v.ownBlock → Below base w w' → (v.ownBlock = some g ∨ w.heap.size ≤ g) → g < w'.heap.size →
      K (a.put o.dst (.slice (some ⟨g, 0, none⟩) (n + 1) cap)) w') : if Region.wanted o (yielded ops a.tmps) = true then Oper.wpIn (Fence.wide.inRound l) m P o a (w.alloc (.cells cs e)) K Q else E := by
  obtain ⟨i, hi0, hz0, hz1, hz2⟩ := info_parts hi
  obtain ⟨g, cap, w', hr, h2, h3, h4, h5⟩ := run_append_lies (P := P) (w.alloc (.cells cs e)) t o.type base e i z size bytes ht hi0 hz0 hz1 hz2 hzs hsz v n xs (hown.alloc _) ⟨w.heap.size, 0, none⟩ 1 1 cs.toList (by simp [hl]) (World.news_of_block (fr := (0, 0)) (heap_alloc_new w _)) h1 (by decide) (by unfold maxLen; exact h63) hbytes (by simp; omega) _ rfl
  have hg : w.grownBy w' v.ownBlock := ⟨h3.os, h3.tape, h3.output, Nat.le_trans (by simp) h3.size, fun k hk hne => (h3.block k (by simp; omega) hne).trans (Below.heap_alloc w _ k hk)⟩
  refine stepIn_value hgd (fun c hc => by rw [ho] at hc; cases hc) (v := .slice (some ⟨g, 0, none⟩) (n + 1) cap) (w' := w') ?_ (h g cap w' h2 hg ⟨hg.os, hg.tape, hg.output, hg.size, fun k hk => hg.block k (by omega) (fun e => by have := (hown.lt k e.symm).1; omega)⟩ (h4.imp id (fun e => by simp at e; omega)) h5)
  simp [execOp, ho, resolve, invoke, builtin, hs, hx, hr, Result.andThen]
theorem exists_sub {Ok : En → Prop} (l : List En) (h : ∀ r ∈ l, Ok r) : ∃ L : List (Subtype Ok), L.map Subtype.val = l := by
  induction l with
  | nil => exact ⟨[], rfl⟩
  | cons a l ih =>
    obtain ⟨L, hL⟩ := ih fun r hr => h r (List.mem_cons_of_mem _ hr)
    exact ⟨⟨a, h a (List.mem_cons_self ..)⟩ :: L, by rw [List.map_cons, hL]⟩

theorem hits_keys {Ok : En → Prop} (p : En → Bool) (L : List (Subtype Ok)) : (hits p L).map (fun x => nkey x.1.1) = ((L.map Subtype.val).filter p).map nkey := by
  unfold hits
  rw [show (fun x : Subtype Ok × Nat => nkey x.1.1) = (fun r : Subtype Ok => nkey r.1) ∘ Prod.fst from rfl, ← List.map_map, List.zipIdx_map_fst, List.filter_map, List.map_map]
  rfl

set_option maxHeartbeats 1600000 in
set_option maxRecDepth 100000 in
theorem strVoided_any (P : Nat → Prop) (A : Option Addr) (n c : Nat) (l : List En) (w : World) (hl : RL w P A n l) (hP : ∀ i, P i → i < w.heap.size) (hn : n ≤ 1000000000) (hf : ∀ r ∈ l, r.e.n ≤ 1099511627000) :
    Calls Try.prog 19 #[.slice A n c] w fun e w' => ∃ v ns, e = .returned v ∧ ns.map nkey = (l.filter voidIs).map nkey ∧ Fresh w' w.heap.size v ns ∧ Below w.heap.size w w' := by
  refine (callsIn_wide (n := 8)).1 ?_
  refine callsIn_of_wp_marks Try.func19 rfl trivial ?_ rfl
  simp only [Try.ntmps19, List.size_toArray, List.length_cons, List.length_nil, Nat.reduceAdd, Nat.reduceSub, Array.replicate_succ, Array.replicate_zero, List.push_toArray, List.append_toArray, List.nil_append, List.cons_append]
  gi_wp2_with (refine ⟨trivial, ?_⟩; refine (callsIn_wide.2 (those_any _ _ _ _ _ _ _)).mono ?_; rintro e w' ⟨rfl, rfl⟩)
  obtain ⟨W0, hW0⟩ : ∃ W0, W0 = ((w.alloc (.cells #[.slice none 0 0] 22)).alloc (.cells #[.slice A n c] 22)).alloc (.cells #[.func (.func 43) #[] #[]] 66) := ⟨_, rfl⟩
  have z0 : W0.heap.size = w.heap.size + 3 := by rw [hW0]; simp
  have kB0 : Below w.heap.size w W0 := by rw [hW0]; exact (((Below.refl _ w).alloc (Nat.le_refl _) _).alloc (by simp) _).alloc (by simp; omega) _
  have cl : W0.cell? ⟨w.heap.size + 1, 0, none⟩ = some (.slice A n c) := by
    rw [hW0, World.cell?_alloc_past _ _ _ (by simp), World.cell?_alloc_at _ _ _ _ (by simp)]; rfl
  have cf : W0.cell? ⟨w.heap.size + 2, 0, none⟩ = some (.func (.func 43) #[] #[]) := by
    rw [hW0, World.cell?_alloc_at _ _ _ _ (by simp)]; rfl
  have bo : Boxed W0 w.heap.size 22 (.slice none 0 0) := by rw [hW0]; exact ((Boxed.new w _ _).alloc _).alloc _
  obtain ⟨L, hL⟩ := exists_sub (Ok := OkAt W0 (fun i => i < W0.heap.size ∧ i ≠ w.heap.size)) l (fun r hr => ⟨((hl.2 r hr).keep fun i hi => kB0.block i (hP i hi)).more fun i hi => ⟨by have := hP i hi; omega, by have := hP i hi; omega⟩, hf r hr⟩)
  have hl0 : RL W0 (fun i => i < W0.heap.size ∧ i ≠ w.heap.size) A n (L.map Subtype.val) := by
    rw [hL]
    exact (hl.keep fun i hi => kB0.block i (hP i hi)).more fun i hi => ⟨by have := hP i hi; omega, by have := hP i hi; omega⟩
  have hLn : L.length = n := by have := hl0.len; simpa using this
  obtain ⟨n₀, hn₀⟩ : ∃ n₀, n₀ = W0.heap.size := ⟨_, rfl⟩
  rw [← hW0]
  have HW0 := Lib.hid hW0
  clear hW0
  refine wpIn_rangeFunc_ownH (F := Fence.wide) rfl (by omega) (gf := 59) (lb := #[.pointer (some ⟨w.heap.size + 1, 0, none⟩), .pointer (some ⟨w.heap.size + 2, 0, none⟩)]) rfl trivial (enters_of Try.func59 (by kernel_rfl) rfl)
    (encs := encs) (Kp := KeepsBut W0.heap.size w.heap.size) (S := fun ys => ys = hits voidIs L) (Sp := fun pre => pre <+: hits voidIs L) (N := L.length) (w0 := W0)
    (fun l J Jx W hW hJ hJx hY h0 => thoseVoid 7 (by omega) l (w.heap.size + 1) (w.heap.size + 2) W0.heap.size w.heap.size A n c L J Jx W hJ hY (by omega) hW.size ((hW.cell (p := ⟨w.heap.size + 1, 0, none⟩) (by show w.heap.size + 1 < _; omega)).trans cl) ((hW.cell (p := ⟨w.heap.size + 2, 0, none⟩) (by show w.heap.size + 2 < _; omega)).trans cf) (hl0.keep fun i hi => hW.block i hi.1) ⟨⟨by omega, by omega⟩, ⟨by omega, by omega⟩⟩ h0)
    (fun h k => h.trans k) (keepsBut_b (Nat.le_refl _)) (Below.refl _ _) (fun _ => rfl)
    (fun pre W => (∃ ns : List En, ns.map nkey = pre.map (fun x => nkey x.1.1) ∧ Got W0.heap.size w.heap.size W0 ns W) ∧ Below w.heap.size w W)
    (fun _ _ _ => False)
    (OwnFrom.and (fun s X Y row ⟨ns, hk, hg⟩ hgr hr => ⟨ns, hk, hg.step (Nat.le_refl _) hgr hr⟩) (ownFrom_below (Nat.le_refl _) (by omega)))
    (fun _ _ _ _ _ hs _ _ => hs)
    ⟨⟨[], rfl, ⟨⟨_, bo, Fresh.nil _ _⟩, KeepsBut.refl _ _ _⟩⟩, kB0⟩
    (fun x a' W => ∃ Bx, W0.heap.size ≤ Bx ∧ Box13 W Bx x.1.1 ∧ a' = { tmps := #[.slice A n c, undef, .slice none 0 0, .pointer (some ⟨w.heap.size, 0, none⟩), undef, .pointer (some ⟨Bx, 0, none⟩), .slice A n c, .func (.func 59) #[] #[.pointer (some ⟨w.heap.size + 1, 0, none⟩), .pointer (some ⟨w.heap.size + 1 + 1, 0, none⟩)], .int .i64 (x.2 : Int), .agg (nc x.1.1).toArray, undef, undef, undef, undef, undef, undef], defers := [] })
    (fun x a' => fun _ X Y row ⟨Bx, h1, h2, h3⟩ hg hr => ⟨Bx, h1, h2.kept (hg.block Bx (Array.getElem?_eq_some_iff.1 h2).1 (fun e => by
      obtain ⟨_, o, ho, hc⟩ := hr Bx e.symm
      rw [show X.heap[Bx]? = _ from h2] at ho
      cases ho; cases hc)), h3⟩)
    ?assign ?body ?done ?stop
  case assign =>
    intro l pre x W K hi hK
    obtain ⟨⟨ns, hk, hg⟩, hB⟩ := hi
    obtain ⟨⟨r, hok⟩, m⟩ := x
    have hsz := hg.2.1
    simp only [encs, nc]
    have HKK := Lib.hid hK
    have HKEY := Lib.hid hk
    clear hK hk
    gi_wp2
    exact HKK.out _ _ ((KeepsOthers.alloc _ _).from _) (KeepsBut.of_below ((Below.refl _ W).alloc hsz _)) ⟨⟨ns, HKEY.out, hg.step (Nat.le_refl _) (World.grownBy_alloc W _ none) (fun r e => by cases e)⟩, hB.alloc hB.size _⟩ ⟨W.heap.size, hsz, Box13.new W r, rfl⟩
  case body =>
    rintro l pre x a' W hle - ⟨⟨ns, hk, ⟨⟨v, hv, hF⟩, hK⟩⟩, hB⟩ ⟨Bx, hBx, hbx, rfl⟩ hlt
    obtain ⟨⟨r, hok⟩, m⟩ := x
    obtain ⟨⟨a0, a1, a2, A1, n1, c1, ds, b0, b1, b2, b3, b4, b5⟩, void, u0, u1⟩ := r
    have hsz := hK.1
    have hnl : ns.length = pre.length := by simpa using congrArg List.length hk
    obtain ⟨A', c', rfl, hc1, hc2, _⟩ := own_form hF.row
    obtain ⟨N', hN'⟩ : ∃ N', N' = ns.length := ⟨_, rfl⟩
    have hrow := hF.row
    have hN2 : N' ≤ 1000000000 := by omega
    obtain ⟨Wd, hWd⟩ : ∃ Wd, Wd = W.drew := ⟨_, rfl⟩
    have hsd : Wd.heap.size = W.heap.size := by rw [hWd]; rfl
    have kd : Below W.heap.size W Wd := by rw [hWd]; exact (Below.refl _ _).drew
    have hn₀d : n₀ ≤ Wd.heap.size := by omega
    have hT : Calls Try.prog 41 #[.agg (nc ⟨⟨a0, a1, a2, A1, n1, c1, ds, b0, b1, b2, b3, b4, b5⟩, void, u0, u1⟩).toArray] Wd fun e w' => ∃ r', e = .returned (.agg (nc r').toArray) ∧ nkey r' = nkey ⟨⟨a0, a1, a2, A1, n1, c1, ds, b0, b1, b2, b3, b4, b5⟩, void, u0, u1⟩ ∧ EvR w' (New W w') r'.e ∧ r'.e.n ≤ 1099511627000 ∧ Below Wd.heap.size Wd w' := by
      refine (copyOf_any ⟨⟨a0, a1, a2, A1, n1, c1, ds, b0, b1, b2, b3, b4, b5⟩, void, u0, u1⟩ (fun i => i < W0.heap.size ∧ i ≠ w.heap.size) Wd (hok.1.keep fun i hi => (kd.block i (by omega)).trans (hK.2 i hi.1 hi.2)) (fun i hi => by omega) hok.2).mono ?_
      rintro e w' ⟨r', h1, h2, h3, h4, h5⟩
      exact ⟨r', h1, h2, h3.more fun i hi => ⟨by have := hi.1; omega, hi.2⟩, h4 ▸ hok.2, h5⟩
    have hD : ∀ Wx, Below Wd.heap.size Wd Wx → Wx.cell? ⟨w.heap.size, 0, none⟩ = some (.slice A' N' c') ∧ Wx.frozen? ⟨w.heap.size, 0, none⟩ = false ∧ Wx.ownsRow n₀ 39 13 (.slice A' N' c') N' (ns.flatMap nc) := fun Wx hx => by
      have hx2 : Below W.heap.size W Wx := kd.trans (hsd ▸ hx)
      have hvx : Boxed Wx w.heap.size 22 (.slice A' N' c') := hN' ▸ (hx2.block _ hv.lt).trans hv
      exact ⟨hvx.cell, hvx.frozen, by rw [hN', hn₀]; exact own_below hrow hx2⟩
    have hG : ∀ W2 w3 r' g cap, Below Wd.heap.size Wd W2 → EvR W2 (New W W2) r'.e → r'.e.n ≤ 1099511627000 → w3.ownsRow n₀ 39 13 (.slice (some ⟨g, 0, none⟩) (N' + 1) cap) (N' + 1) (ns.flatMap nc ++ nc r') → W2.grownBy w3 (Value.slice A' N' c').ownBlock → ((Value.slice A' N' c').ownBlock = some g ∨ W2.heap.size ≤ g) →
        w3.cell? ⟨w.heap.size, 0, none⟩ = some (.slice A' N' c') ∧ w3.frozen? ⟨w.heap.size, 0, none⟩ = false ∧ (KeepsFrom W0.heap.size W (w3.setCell ⟨w.heap.size, 0, none⟩ (.slice (some ⟨g, 0, none⟩) (N' + 1) cap)) ∧ KeepsBut W0.heap.size w.heap.size W (w3.setCell ⟨w.heap.size, 0, none⟩ (.slice (some ⟨g, 0, none⟩) (N' + 1) cap)) ∧
          Got W0.heap.size w.heap.size W0 (ns ++ [r']) (w3.setCell ⟨w.heap.size, 0, none⟩ (.slice (some ⟨g, 0, none⟩) (N' + 1) cap)) ∧ Below w.heap.size W (w3.setCell ⟨w.heap.size, 0, none⟩ (.slice (some ⟨g, 0, none⟩) (N' + 1) cap))) := by
      intro W2 w3 r' g cap h2 her hen ho hgr hat
      subst hN' hn₀
      exact got_push hsz (by omega) hv hF hK (kd.trans (hsd ▸ h2)) her hen ho hgr hat
    have hcells : ∀ j u, (nc ⟨⟨a0, a1, a2, A1, n1, c1, ds, b0, b1, b2, b3, b4, b5⟩, void, u0, u1⟩)[j]? = some u → Wd.cell? ⟨Bx, j, none⟩ = some u := fun j u hu => by
      rw [hWd]; exact (cell_drew_own _ _).trans (hbx.cell j u hu)
    have x0 := hcells 0 _ rfl
    have x1 := hcells 1 _ rfl
    have x2 := hcells 2 _ rfl
    have x3 := hcells 3 _ rfl
    have x4 := hcells 4 _ rfl
    have x5 := hcells 5 _ rfl
    have x6 := hcells 6 _ rfl
    have x7 := hcells 7 _ rfl
    have x8 := hcells 8 _ rfl
    have x9 := hcells 9 _ rfl
    have x10 := hcells 10 _ rfl
    have x11 := hcells 11 _ rfl
    have x12 := hcells 12 _ rfl
    simp only [nc] at hT
    have hB' : Below w.heap.size w W := hB
    have T := Lib.hid hT
    have D := Lib.hid hD
    have G := Lib.hid hG
    have HKEY := Lib.hid hk
    have HB := Lib.hid hB'
    clear hT hD hG hk hB' hB hv hF hK hrow hbx hcells hN' hnl hsd cl cf bo hl0 hL hLn hl hf hc1 hc2 HW0 hn₀
    simp only [nc]
    gi_wp2
    refine wpIn_region_any (by kernel_rfl) ?_
    change wpAnyIn _ _ _ _ _ _ _ _ _ (World.drew _)
    rw [← hWd]
    clear hWd
    refine wpAnyIn_ready (rs := [0, 1]) (by kernel_rfl) (by simp) ?_
    refine AllReadyIn.cons rfl (fun K hK => ?_) (AllReadyIn.cons rfl (fun K hK => ?_) AllReadyIn.nil)
    · skip
      have q0 := (D.out _ (Below.refl _ _)).1
      go_simp
      refine hK _ _ ?_
      clear hK K
      clear q0
      refine wpAnyIn_ready (rs := [1]) (by kernel_rfl) (by simp) ?_
      refine AllReadyIn.cons rfl (fun K hK => ?_) AllReadyIn.nil
      go_simp
      refine hK _ _ ?_
      clear hK K
      refine wpAnyIn_ready (rs := [2]) (by kernel_rfl) (by simp) ?_
      refine AllReadyIn.cons rfl (fun K hK => ?_) AllReadyIn.nil
      go_simp
      gi_wp2_with (refine ⟨trivial, ?_⟩; refine (CallsIn.inRound l (callsIn_wide.2 T.out)).mono ?_; rintro e W2 ⟨r', rfl, hkr, her, hen, hb2⟩; simp only [nc])
      have hb2d := hb2
      refine wpAnyIn_ready (rs := [3]) (by kernel_rfl) (by simp) ?_
      refine AllReadyIn.cons rfl (fun K hK => ?_) AllReadyIn.nil
      go_simp
      refine hK _ _ ?_
      clear hK K
      refine wpAnyIn_ready (rs := [4]) (by kernel_rfl) (by simp) ?_
      refine AllReadyIn.cons rfl (fun K hK => ?_) AllReadyIn.nil
      refine stepIn_app1 W2 #[.int .i64 r'.e.a0, .int .i64 r'.e.a1, .int .i64 r'.e.a2, (.slice r'.e.A r'.e.n r'.e.c), .int .i64 r'.e.b0, .int .i64 r'.e.b1, .int .i64 r'.e.b2, .int .i64 r'.e.b3, .int .i64 r'.e.b4, .int .i64 r'.e.b5, .bool r'.void, .int .i64 r'.y0, .int .i64 r'.y1] rfl (.tmp 10) (.tmp 13) 22 rfl n₀ 39 (.agg (nc zeroEn).toArray) 13 120 Try.underlying22 infoEn rfl (by decide) (.slice A' N' c') N' (ns.flatMap nc) ((D.out _ hb2).2.2) (by simp [Act.eval, Act.put]) (by simp [Act.eval, Act.put]) rfl (fun u hu => ncs_one [r'] u (by simpa [nc] using hu)) (by omega) (by omega) (Nat.le_trans hn₀d hb2.size) ?_
      intro g cap w3 hown3 hgr3 hB3 hat3 hlt3
      refine hK _ _ ?_
      clear hK K
      obtain ⟨hc3, hf3, hend⟩ := G.out W2 w3 r' g cap hb2 her (by omega) hown3 hgr3 hat3
      refine wpAnyIn_ready (rs := [5]) (by kernel_rfl) (by simp) ?_
      refine AllReadyIn.cons rfl (fun K hK => ?_) AllReadyIn.nil
      go_simp
      refine hK _ _ ?_
      clear hK K
      refine wpAnyIn_done (by kernel_rfl) ?_ _
      exact ⟨hend.1, hend.2.1, ⟨ns ++ [r'], by rw [List.map_append, List.map_append, HKEY.out, List.map_singleton, List.map_singleton, hkr], hend.2.2.1⟩, HB.out.trans hend.2.2.2⟩
    · skip
      go_simp
      refine hK _ _ ?_
      clear hK K
      refine wpAnyIn_ready (rs := [0, 2]) (by kernel_rfl) (by simp) ?_
      refine AllReadyIn.cons rfl (fun K hK => ?_) (AllReadyIn.cons rfl (fun K hK => ?_) AllReadyIn.nil)
      · skip
        have q0 := (D.out _ (Below.refl _ _)).1
        go_simp
        refine hK _ _ ?_
        clear hK K
        clear q0
        refine wpAnyIn_ready (rs := [2]) (by kernel_rfl) (by simp) ?_
        refine AllReadyIn.cons rfl (fun K hK => ?_) AllReadyIn.nil
        go_simp
        gi_wp2_with (refine ⟨trivial, ?_⟩; refine (CallsIn.inRound l (callsIn_wide.2 T.out)).mono ?_; rintro e W2 ⟨r', rfl, hkr, her, hen, hb2⟩; simp only [nc])
        have hb2d := hb2
        refine wpAnyIn_ready (rs := [3]) (by kernel_rfl) (by simp) ?_
        refine AllReadyIn.cons rfl (fun K hK => ?_) AllReadyIn.nil
        go_simp
        refine hK _ _ ?_
        clear hK K
        refine wpAnyIn_ready (rs := [4]) (by kernel_rfl) (by simp) ?_
        refine AllReadyIn.cons rfl (fun K hK => ?_) AllReadyIn.nil
        refine stepIn_app1 W2 #[.int .i64 r'.e.a0, .int .i64 r'.e.a1, .int .i64 r'.e.a2, (.slice r'.e.A r'.e.n r'.e.c), .int .i64 r'.e.b0, .int .i64 r'.e.b1, .int .i64 r'.e.b2, .int .i64 r'.e.b3, .int .i64 r'.e.b4, .int .i64 r'.e.b5, .bool r'.void, .int .i64 r'.y0, .int .i64 r'.y1] rfl (.tmp 10) (.tmp 13) 22 rfl n₀ 39 (.agg (nc zeroEn).toArray) 13 120 Try.underlying22 infoEn rfl (by decide) (.slice A' N' c') N' (ns.flatMap nc) ((D.out _ hb2).2.2) (by simp [Act.eval, Act.put]) (by simp [Act.eval, Act.put]) rfl (fun u hu => ncs_one [r'] u (by simpa [nc] using hu)) (by omega) (by omega) (Nat.le_trans hn₀d hb2.size) ?_
        intro g cap w3 hown3 hgr3 hB3 hat3 hlt3
        refine hK _ _ ?_
        clear hK K
        obtain ⟨hc3, hf3, hend⟩ := G.out W2 w3 r' g cap hb2 her (by omega) hown3 hgr3 hat3
        refine wpAnyIn_ready (rs := [5]) (by kernel_rfl) (by simp) ?_
        refine AllReadyIn.cons rfl (fun K hK => ?_) AllReadyIn.nil
        go_simp
        refine hK _ _ ?_
        clear hK K
        refine wpAnyIn_done (by kernel_rfl) ?_ _
        exact ⟨hend.1, hend.2.1, ⟨ns ++ [r'], by rw [List.map_append, List.map_append, HKEY.out, List.map_singleton, List.map_singleton, hkr], hend.2.2.1⟩, HB.out.trans hend.2.2.2⟩
      · skip
        go_simp
        gi_wp2_with (refine ⟨trivial, ?_⟩; refine (CallsIn.inRound l (callsIn_wide.2 T.out)).mono ?_; rintro e W2 ⟨r', rfl, hkr, her, hen, hb2⟩; simp only [nc])
        have hb2d := hb2
        refine wpAnyIn_ready (rs := [0, 3]) (by kernel_rfl) (by simp) ?_
        refine AllReadyIn.cons rfl (fun K hK => ?_) (AllReadyIn.cons rfl (fun K hK => ?_) AllReadyIn.nil)
        · skip
          have q0 := (D.out _ hb2d).1
          go_simp
          refine hK _ _ ?_
          clear hK K
          clear q0
          refine wpAnyIn_ready (rs := [3]) (by kernel_rfl) (by simp) ?_
          refine AllReadyIn.cons rfl (fun K hK => ?_) AllReadyIn.nil
          go_simp
          refine hK _ _ ?_
          clear hK K
          refine wpAnyIn_ready (rs := [4]) (by kernel_rfl) (by simp) ?_
          refine AllReadyIn.cons rfl (fun K hK => ?_) AllReadyIn.nil
          refine stepIn_app1 W2 #[.int .i64 r'.e.a0, .int .i64 r'.e.a1, .int .i64 r'.e.a2, (.slice r'.e.A r'.e.n r'.e.c), .int .i64 r'.e.b0, .int .i64 r'.e.b1, .int .i64 r'.e.b2, .int .i64 r'.e.b3, .int .i64 r'.e.b4, .int .i64 r'.e.b5, .bool r'.void, .int .i64 r'.y0, .int .i64 r'.y1] rfl (.tmp 10) (.tmp 13) 22 rfl n₀ 39 (.agg (nc zeroEn).toArray) 13 120 Try.underlying22 infoEn rfl (by decide) (.slice A' N' c') N' (ns.flatMap nc) ((D.out _ hb2).2.2) (by simp [Act.eval, Act.put]) (by simp [Act.eval, Act.put]) rfl (fun u hu => ncs_one [r'] u (by simpa [nc] using hu)) (by omega) (by omega) (Nat.le_trans hn₀d hb2.size) ?_
          intro g cap w3 hown3 hgr3 hB3 hat3 hlt3
          refine hK _ _ ?_
          clear hK K
          obtain ⟨hc3, hf3, hend⟩ := G.out W2 w3 r' g cap hb2 her (by omega) hown3 hgr3 hat3
          refine wpAnyIn_ready (rs := [5]) (by kernel_rfl) (by simp) ?_
          refine AllReadyIn.cons rfl (fun K hK => ?_) AllReadyIn.nil
          go_simp
          refine hK _ _ ?_
          clear hK K
          refine wpAnyIn_done (by kernel_rfl) ?_ _
          exact ⟨hend.1, hend.2.1, ⟨ns ++ [r'], by rw [List.map_append, List.map_append, HKEY.out, List.map_singleton, List.map_singleton, hkr], hend.2.2.1⟩, HB.out.trans hend.2.2.2⟩
        · skip
          go_simp
          refine hK _ _ ?_
          clear hK K
          refine wpAnyIn_ready (rs := [0]) (by kernel_rfl) (by simp) ?_
          refine AllReadyIn.cons rfl (fun K hK => ?_) AllReadyIn.nil
          have q0 := (D.out _ (hb2.alloc hb2.size (.cells #[.int .i64 r'.e.a0, .int .i64 r'.e.a1, .int .i64 r'.e.a2, (.slice r'.e.A r'.e.n r'.e.c), .int .i64 r'.e.b0, .int .i64 r'.e.b1, .int .i64 r'.e.b2, .int .i64 r'.e.b3, .int .i64 r'.e.b4, .int .i64 r'.e.b5, .bool r'.void, .int .i64 r'.y0, .int .i64 r'.y1] 39))).1
          go_simp
          refine hK _ _ ?_
          clear hK K
          clear q0
          refine wpAnyIn_ready (rs := [4]) (by kernel_rfl) (by simp) ?_
          refine AllReadyIn.cons rfl (fun K hK => ?_) AllReadyIn.nil
          refine stepIn_app1 W2 #[.int .i64 r'.e.a0, .int .i64 r'.e.a1, .int .i64 r'.e.a2, (.slice r'.e.A r'.e.n r'.e.c), .int .i64 r'.e.b0, .int .i64 r'.e.b1, .int .i64 r'.e.b2, .int .i64 r'.e.b3, .int .i64 r'.e.b4, .int .i64 r'.e.b5, .bool r'.void, .int .i64 r'.y0, .int .i64 r'.y1] rfl (.tmp 10) (.tmp 13) 22 rfl n₀ 39 (.agg (nc zeroEn).toArray) 13 120 Try.underlying22 infoEn rfl (by decide) (.slice A' N' c') N' (ns.flatMap nc) ((D.out _ hb2).2.2) (by simp [Act.eval, Act.put]) (by simp [Act.eval, Act.put]) rfl (fun u hu => ncs_one [r'] u (by simpa [nc] using hu)) (by omega) (by omega) (Nat.le_trans hn₀d hb2.size) ?_
          intro g cap w3 hown3 hgr3 hB3 hat3 hlt3
          refine hK _ _ ?_
          clear hK K
          obtain ⟨hc3, hf3, hend⟩ := G.out W2 w3 r' g cap hb2 her (by omega) hown3 hgr3 hat3
          refine wpAnyIn_ready (rs := [5]) (by kernel_rfl) (by simp) ?_
          refine AllReadyIn.cons rfl (fun K hK => ?_) AllReadyIn.nil
          go_simp
          refine hK _ _ ?_
          clear hK K
          refine wpAnyIn_done (by kernel_rfl) ?_ _
          exact ⟨hend.1, hend.2.1, ⟨ns ++ [r'], by rw [List.map_append, List.map_append, HKEY.out, List.map_singleton, List.map_singleton, hkr], hend.2.2.1⟩, HB.out.trans hend.2.2.2⟩
  case done =>
    rintro D ys W hD rfl ⟨⟨ns, hk, ⟨⟨v, hv, hF⟩, hKB⟩⟩, hB⟩ hK
    have hgr := grownBy_putObj' W D (Obj.deferred none)
    have hF2 : Fresh (W.putObj D (.deferred none)) W0.heap.size v ns := hF.keep hgr.size fun i _ hi hc => hgr.block i hi (fun e => by
      cases e
      obtain ⟨cur, t, h1⟩ := hc
      rw [h1] at hK
      cases hK)
    have hB2 : Below w.heap.size w (W.putObj D (.deferred none)) := hB.trans (belowK_b (w := w) (Nat.le_refl _) W D _ _ (by omega) hK rfl rfl)
    rw [hits_keys, hL] at hk
    have HKEY := Lib.hid hk
    have hc := hv.cell
    clear hk
    gi_wp2
    refine ⟨by simp, .inl ⟨_, _, rfl, run_takeDeferred hK, ?_⟩⟩
    exact ⟨_, results_tmp rfl _ _ _, v, ns, rfl, HKEY.out, hF2.base (by omega), hB2⟩
  case stop =>
    rintro D c' pre W _ _ h _
    exact h.elim
end Go.Proofs.Ytcidmlpjobdakaa
