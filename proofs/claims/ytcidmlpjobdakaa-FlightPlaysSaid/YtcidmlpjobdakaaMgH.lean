/- Messages in variables; the chapter's example. -/
import Derived.Test.YtcidmlpjobdakaaMgG
namespace Go.Proofs.Ytcidmlpjobdakaa
set_option linter.unusedSimpArgs false
set_option linter.unusedVariables false
set_option linter.unnecessarySimpa false
open Go.RowKit

theorem FirstAt.same {l l' : List Mg} {f t z z' : Int} (hk : l.map mkey = l'.map mkey) (h : FirstAt l f t z) (h' : FirstAt l' f t z') : z = z' := by
  have hg : ∀ (j : Nat) (r s : Mg), l[j]? = some r → l'[j]? = some s → (goes f t r ↔ goes f t s) := by
    intro j r s hr hs
    have := congrArg (fun x => x[j]?) hk
    simp only [List.getElem?_map, hr, hs, Option.map_some, Option.some.injEq, mkey, Prod.mk.injEq] at this
    unfold goes
    rw [this.2.1, this.2.2.1]
  have hlen : l.length = l'.length := by simpa using congrArg List.length hk
  have hat : ∀ (j : Nat) (r : Mg), l[j]? = some r → ∃ s, l'[j]? = some s := fun j r hr => ⟨_, List.getElem?_eq_getElem (by rw [← hlen]; exact (List.getElem?_eq_some_iff.1 hr).1)⟩
  have hat' : ∀ (j : Nat) (r : Mg), l'[j]? = some r → ∃ s, l[j]? = some s := fun j r hr => ⟨_, List.getElem?_eq_getElem (by rw [hlen]; exact (List.getElem?_eq_some_iff.1 hr).1)⟩
  rcases h with ⟨hz, hno⟩ | ⟨k, m, hz, hm, hgo, hbe⟩
  · rcases h' with ⟨hz', _⟩ | ⟨k', m', hz', hm', hgo', hbe'⟩
    · rw [hz, hz']
    · obtain ⟨s, hs⟩ := hat' k' m' hm'
      exact absurd ((hg k' s m' hs hm').2 hgo') (hno s (List.mem_of_getElem? hs))
  · rcases h' with ⟨hz', hno'⟩ | ⟨k', m', hz', hm', hgo', hbe'⟩
    · obtain ⟨s, hs⟩ := hat k m hm
      exact absurd ((hg k m s hm hs).1 hgo) (hno' s (List.mem_of_getElem? hs))
    · rw [hz, hz']
      rcases Nat.lt_trichotomy k k' with hlt | rfl | hlt
      · obtain ⟨s, hs⟩ := hat k m hm
        exact absurd ((hg k m s hm hs).1 hgo) (hbe' k s hlt hs)
      · rfl
      · obtain ⟨s, hs⟩ := hat' k' m' hm'
        exact absurd ((hg k' s m' hs hm').2 hgo') (hbe k' s hlt hs)

/-- A message lies in a variable's block; all it holds lies in P. -/
structure Has (w : World) (P : Nat → Prop) (p : Nat) (m : Mg) : Prop where
  lay : ∀ j u, (mc m)[j]? = some u → w.cell? ⟨p, j, none⟩ = some u
  mg : MgR w P m
  here : P p
  inw : ∀ i, P i → i < w.heap.size
theorem Has.five {w : World} {P : Nat → Prop} {p : Nat} {m : Mg} (h : Has w P p m) : w.cell? ⟨p, 0, none⟩ = some (.int .i64 m.kind) ∧ w.cell? ⟨p, 1, none⟩ = some (.int .i64 m.from_) ∧ w.cell? ⟨p, 2, none⟩ = some (.int .i64 m.to_) ∧ w.cell? ⟨p, 3, none⟩ = some (.slice m.VA m.vn m.vc) ∧ w.cell? ⟨p, 4, none⟩ = some (.slice m.EA m.en m.ecap) :=
  ⟨h.lay 0 _ rfl, h.lay 1 _ rfl, h.lay 2 _ rfl, h.lay 3 _ rfl, h.lay 4 _ rfl⟩
theorem Has.keep {w w' : World} {P : Nat → Prop} {p : Nat} {m : Mg} (h : Has w P p m) (hs : w.heap.size ≤ w'.heap.size) (hh : ∀ i, P i → w'.heap[i]? = w.heap[i]?) : Has w' P p m :=
  ⟨fun j u hu => (World.cell?_of_block (hh p h.here)).trans (h.lay j u hu), h.mg.keep hh, h.here, fun i hi => Nat.lt_of_lt_of_le (h.inw i hi) hs⟩
theorem Has.below {w w' : World} {P : Nat → Prop} {p : Nat} {m : Mg} (h : Has w P p m) (hb : Below w.heap.size w w') : Has w' P p m := h.keep hb.size fun i hi => hb.block i (h.inw i hi)
theorem Has.off {w w' : World} {P S : Nat → Prop} {p : Nat} {m : Mg} (h : Has w P p m) (ho : Off S w w') (hS : ∀ i, P i → ¬ S i) : Has w' P p m := h.keep ho.size fun i hi => ho.2 i (h.inw i hi) (hS i hi)
theorem Has.new {w : World} {P : Nat → Prop} {m : Mg} (h : MgR w P m) (hP : ∀ i, P i → i < w.heap.size) : Has (w.alloc (.cells (mc m).toArray 54)) (fun i => P i ∨ i = w.heap.size) w.heap.size m := by
  refine ⟨fun j u hu => ?_, (h.keep fun i hi => Below.heap_alloc _ _ _ (hP i hi)).more fun i hi => .inl hi, .inr rfl, fun i hi => ?_⟩
  · rw [World.cell?_alloc_at _ _ _ _ rfl]
    simpa using hu
  · simp
    rcases hi with hi | hi
    · have := hP i hi; omega
    · omega
/-- A block of its own with one number. -/
theorem RN.one (w : World) (z : Int) (P : Nat → Prop) (hP : P w.heap.size) : RN (w.alloc (.cells #[.int .i64 z] 3)) P (some ⟨w.heap.size, 0, none⟩) 1 [z] := by
  refine ⟨rfl, fun _ => ⟨w.heap.size, 0, rfl, hP, fun j u hu => ?_⟩⟩
  rw [Nat.zero_add, World.cell?_alloc_at _ _ _ _ rfl]
  simpa [ints] using hu

/-- The blocks that are there but for those of S. -/
def Fre (S : Nat → Prop) (w : World) : Nat → Prop := fun i => ¬ S i ∧ i < w.heap.size
theorem Has.more {w : World} {P Q : Nat → Prop} {p : Nat} {m : Mg} (h : Has w P p m) (hQ : ∀ i, P i → Q i) (hin : ∀ i, Q i → i < w.heap.size) : Has w Q p m := ⟨h.lay, h.mg.more hQ, hQ _ h.here, hin⟩
theorem Has.fre {w w' : World} {S : Nat → Prop} {p : Nat} {m : Mg} (h : Has w (Fre S w) p m) (ho : Off S w w') : Has w' (Fre S w') p m :=
  (h.off ho fun _ hi => hi.1).more (fun _ hi => ⟨hi.1, Nat.lt_of_lt_of_le hi.2 ho.size⟩) (fun _ hi => hi.2)
theorem MgR.fre {w w' : World} {S : Nat → Prop} {m : Mg} (h : MgR w (Fre S w) m) (ho : Off S w w') : MgR w' (Fre S w') m :=
  (h.keep fun i hi => ho.2 i hi.2 hi.1).more fun _ hi => ⟨hi.1, Nat.lt_of_lt_of_le hi.2 ho.size⟩
/-- A message that came is laid into a variable of its own. -/
theorem Has.box {w w1 : World} {S : Nat → Prop} {m : Mg} (h : MgR w1 (fun i => w.heap.size ≤ i ∧ i < w1.heap.size) m) (hS : ∀ i, S i → i < w.heap.size) (hs : w.heap.size ≤ w1.heap.size) :
    Has (w1.alloc (.cells (mc m).toArray 54)) (Fre S (w1.alloc (.cells (mc m).toArray 54))) w1.heap.size m :=
  (Has.new h fun i hi => hi.2).more (fun i hi => ⟨fun e => by have := hS i e; omega, by simp; omega⟩) (fun i hi => hi.2)
theorem keys3 {ns : List Mg} {a b c : Mg} (h : ns.map mkey = [a, b, c].map mkey) : ∃ x y z, ns = [x, y, z] ∧ mkey x = mkey a ∧ mkey y = mkey b ∧ mkey z = mkey c := by
  have hl : ns.length = 3 := by simpa using congrArg List.length h
  obtain ⟨x, r1, rfl⟩ := List.exists_cons_of_length_pos (l := ns) (by omega)
  obtain ⟨y, r2, rfl⟩ := List.exists_cons_of_length_pos (l := r1) (by simp at hl; omega)
  obtain ⟨z, r3, rfl⟩ := List.exists_cons_of_length_pos (l := r2) (by simp at hl; omega)
  obtain rfl : r3 = [] := by
    simp at hl
    exact hl
  simp only [List.map_cons, List.map_nil, List.cons.injEq] at h
  exact ⟨x, y, z, rfl, h.1, h.2.1, h.2.2.1⟩
theorem between_fix (w : World) (S : Nat → Prop) (g : Nat) (ms : List Mg) (h : Fli w S g ms) (f t z : Int) (ls : List Mg) (hk : ms.map mkey = ls.map mkey) (hz : FirstAt ls f t z) :
    Calls Try.prog 37 #[.pointer (some ⟨g, 0, none⟩), .int .i64 f, .int .i64 t] w fun r w' => r = .returned (.int .i64 z) ∧ Below w.heap.size w w' :=
  (between_any w S g ms h f t).mono fun _ _ ⟨z', h1, h2, h3⟩ => ⟨by rw [h1, FirstAt.same hk h2 hz], h3⟩

set_option maxHeartbeats 1600000 in
set_option maxRecDepth 100000 in
theorem known29 (w : World) : Calls Try.prog 26 #[] w fun r w' => r = .returned (.bool true) ∧ Below w.heap.size w w' := by
  obtain ⟨ma, hma⟩ : ∃ m : Mg, m = ⟨4, 0, 1, some ⟨w.heap.size, 0, none⟩, 1, 1, [1], none, 0, 0, []⟩ := ⟨_, rfl⟩
  obtain ⟨mb, hmb⟩ : ∃ m : Mg, m = ⟨4, 1, 0, some ⟨w.heap.size + 1 + 1, 0, none⟩, 1, 1, [2], none, 0, 0, []⟩ := ⟨_, rfl⟩
  obtain ⟨W4, hW4⟩ : ∃ W, W = (((w.alloc (.cells #[.int .i64 1] 3)).alloc (.cells #[.int .i64 4, .int .i64 0, .int .i64 1, .slice (some ⟨w.heap.size, 0, none⟩) 1 1, .slice none 0 0] 54)).alloc (.cells #[.int .i64 2] 3)).alloc (.cells #[.int .i64 4, .int .i64 1, .int .i64 0, .slice (some ⟨w.heap.size + 1 + 1, 0, none⟩) 1 1, .slice none 0 0] 54) := ⟨_, rfl⟩
  have k4 : Below w.heap.size w W4 := by rw [hW4]; exact ((((Below.refl _ _).alloc (Nat.le_refl _) _).alloc (by simp) _).alloc (by simp; omega) _).alloc (by simp; omega) _
  have z4 : W4.heap.size = w.heap.size + 4 := by rw [hW4]; simp
  have ha4 : Has W4 (fun i => i < W4.heap.size) (w.heap.size + 1) ma := by
    have h1 : Has ((w.alloc (.cells #[.int .i64 1] 3)).alloc (.cells (mc ma).toArray 54)) (fun i => i = w.heap.size ∨ i = (w.alloc (.cells #[.int .i64 1] 3)).heap.size) (w.alloc (.cells #[.int .i64 1] 3)).heap.size ma := Has.new (by
      rw [hma]
      exact ⟨RN.one w 1 _ rfl, ⟨by show 1 ≤ 1; omega, by show 1 ≤ 9223372036854775807; omega, fun e => by cases e⟩, RE.nil _ _ _, Nat.le_refl _, by show 0 ≤ 9223372036854775807; omega, fun _ => rfl⟩) (fun i hi => by simp; omega)
    have h2 : Has W4 (fun i => i = w.heap.size ∨ i = (w.alloc (.cells #[.int .i64 1] 3)).heap.size) (w.alloc (.cells #[.int .i64 1] 3)).heap.size ma := h1.below (by
      rw [hW4, hma]
      exact ((Below.refl _ _).alloc (Nat.le_refl _) _).alloc (by simp) _)
    rw [show (w.alloc (.cells #[.int .i64 1] 3)).heap.size = w.heap.size + 1 from by simp] at h2
    exact ⟨h2.lay, h2.mg.more (fun i hi => h2.inw i hi), by omega, fun i hi => hi⟩
  have hb4 : Has W4 (fun i => i < W4.heap.size) (w.heap.size + 1 + 1 + 1) mb := by
    obtain ⟨V, hV⟩ : ∃ V, V = (w.alloc (.cells #[.int .i64 1] 3)).alloc (.cells #[.int .i64 4, .int .i64 0, .int .i64 1, .slice (some ⟨w.heap.size, 0, none⟩) 1 1, .slice none 0 0] 54) := ⟨_, rfl⟩
    have hVs : V.heap.size = w.heap.size + 1 + 1 := by rw [hV]; simp
    have h1 : Has ((V.alloc (.cells #[.int .i64 2] 3)).alloc (.cells (mc mb).toArray 54)) (fun i => i = V.heap.size ∨ i = (V.alloc (.cells #[.int .i64 2] 3)).heap.size) (V.alloc (.cells #[.int .i64 2] 3)).heap.size mb := Has.new (by
      rw [hmb, ← hVs]
      exact ⟨RN.one V 2 _ rfl, ⟨by show 1 ≤ 1; omega, by show 1 ≤ 9223372036854775807; omega, fun e => by cases e⟩, RE.nil _ _ _, Nat.le_refl _, by show 0 ≤ 9223372036854775807; omega, fun _ => rfl⟩) (fun i hi => by simp; omega)
    rw [show (V.alloc (.cells #[.int .i64 2] 3)).heap.size = w.heap.size + 1 + 1 + 1 from by simp [hVs]] at h1
    have hVW : (V.alloc (.cells #[.int .i64 2] 3)).alloc (.cells (mc mb).toArray 54) = W4 := by rw [hW4, hV, hmb]; rfl
    rw [hVW] at h1
    exact ⟨h1.lay, h1.mg.more (fun i hi => h1.inw i hi), by omega, fun i hi => hi⟩
  have fa : Fits ma := by rw [hma]; exact ⟨by show 1 ≤ _; omega, by show 0 ≤ _; omega, fun e h => by cases h⟩
  have fb : Fits mb := by rw [hmb]; exact ⟨by show 1 ≤ _; omega, by show 0 ≤ _; omega, fun e h => by cases h⟩
  have hFA1 : FirstAt [mb, ma] 0 1 1 := .inr ⟨1, ma, rfl, rfl, by rw [hma]; exact ⟨rfl, rfl⟩, fun j r hj hr => by
    have hj0 : j = 0 := by omega
    subst hj0
    have : mb = r := by simpa using hr
    subst this
    rw [hmb]
    intro hg
    exact absurd (show (1 : Int) = 0 from hg.1) (by decide)⟩
  have hFA2 : FirstAt [mb, ma] 1 1 (-1) := .inl ⟨rfl, fun m hm => by
    simp at hm
    rcases hm with rfl | rfl
    · rw [hmb]; intro hg; exact absurd (show (0 : Int) = 1 from hg.2) (by decide)
    · rw [hma]; intro hg; exact absurd (show (0 : Int) = 1 from hg.1) (by decide)⟩
  obtain ⟨pa, hpa⟩ : ∃ pa, pa = w.heap.size + 1 := ⟨_, rfl⟩
  obtain ⟨pb, hpb⟩ : ∃ pb, pb = w.heap.size + 1 + 1 + 1 := ⟨_, rfl⟩
  rw [← hpa] at ha4
  rw [← hpb] at hb4
  have HW4 := Lib.hid hW4
  have HPA := Lib.hid hpa
  have HPB := Lib.hid hpb
  clear hW4 hma hmb
  go_enter Try.func26, Try.ntmps26
  go_upto_region 3 with fail
  rw [← HW4.out, ← HPB.out, ← HPA.out]
  clear hpa hpb HPA HPB
  go_wp2_with fail
  refine (new_any W4).mono ?_
  rintro e w5 ⟨rfl, F5, b5⟩
  obtain ⟨g, hg⟩ : ∃ g, g = W4.heap.size := ⟨_, rfl⟩
  have ha5 : Has w5 (fun i => i < g) pa ma := by rw [hg]; exact ha4.below b5
  have hb5 : Has w5 (fun i => i < g) pb mb := by rw [hg]; exact hb4.below b5
  have k5 := next_below k4 b5
  have hgB : w.heap.size ≤ g := by have := k4.size; omega
  rw [← hg] at F5 ⊢
  clear hg ha4 hb4 b5 HW4
  obtain ⟨xa0, xa1, xa2, xa3, xa4⟩ := ha5.five
  obtain ⟨xb0, xb1, xb2, xb3, xb4⟩ := hb5.five
  obtain ⟨w6, hw6⟩ : ∃ w6, w6 = w5.alloc (.cells #[.int .i64 ma.kind, .int .i64 ma.from_, .int .i64 ma.to_, .slice ma.VA ma.vn ma.vc, .slice ma.EA ma.en ma.ecap, .int .i64 mb.kind, .int .i64 mb.from_, .int .i64 mb.to_, .slice mb.VA mb.vn mb.vc, .slice mb.EA mb.en mb.ecap, .int .i64 ma.kind, .int .i64 ma.from_, .int .i64 ma.to_, .slice ma.VA ma.vn ma.vc, .slice ma.EA ma.en ma.ecap] 54) := ⟨_, rfl⟩
  have b6 : Below w5.heap.size w5 w6 := by rw [hw6]; exact (Below.refl _ _).alloc (Nat.le_refl _) _
  have hr6 : Reads w6 (fun i => i < g ∨ i = w5.heap.size) 5 (some ⟨w5.heap.size, 0, none⟩) 3 (mcs [ma, mb, ma]) := by
    refine ⟨rfl, fun _ => ⟨w5.heap.size, 0, rfl, .inr rfl, fun j u hu => ?_⟩⟩
    rw [Nat.zero_add, hw6, World.cell?_alloc_at _ _ _ _ rfl]
    simpa [mcs, mc] using hu
  have z6 : w6.heap.size = w5.heap.size + 1 := by rw [hw6]; simp
  have HW6 := Lib.hid hw6
  clear hw6
  go_wp2_with fail
  rw [← HW6.out]
  have F6 := F5.below b6
  have ha6 := ha5.below b6
  have hb6 := hb5.below b6
  have hgw : w5.heap.size > g := F5.fresh.2.1
  have k6 := next_below k5 b6
  clear ha5 hb5 F5 xa0 xa1 xa2 xa3 xa4 xb0 xb1 xb2 xb3 xb4 b6 k5 HW6
  refine (send_any w6 (fun i => i = g) g [] F6 (by simp) (fun i => i ≠ g ∧ i < w6.heap.size) _ 3 3 [ma, mb, ma] (hr6.more fun i hi => ⟨by omega, by omega⟩) (by
    intro m hm
    simp at hm
    rcases hm with h | h | h <;> rw [h]
    · exact ⟨ha6.mg.more fun i hi => ⟨by omega, by omega⟩, fa⟩
    · exact ⟨hb6.mg.more fun i hi => ⟨by omega, by omega⟩, fb⟩
    · exact ⟨ha6.mg.more fun i hi => ⟨by omega, by omega⟩, fa⟩) (fun i hi => ⟨hi.2, hi.1⟩) (by omega) (by omega) (fun e => by cases e)).mono ?_
  rintro e w7 ⟨ns, he, hkeys, F7, O7⟩
  obtain rfl : e = .returned (.int .i64 0) := he
  obtain ⟨n0, n1, n2, rfl, kk0, kk1, kk2⟩ := keys3 (a := ma) (b := mb) (c := ma) hkeys
  rw [List.nil_append] at F7
  obtain ⟨S, hS⟩ : ∃ S, S = Grow (fun i => i = g) w6 w7 := ⟨_, rfl⟩
  rw [← hS] at F7
  have hSg : ∀ i, S i → g ≤ i := by
    intro i hi
    rw [hS] at hi
    rcases hi with hi | hi <;> omega
  have hz7 := O7.size
  have ha7 : Has w7 (Fre S w7) pa ma := (ha6.off O7 (fun i hi e => by omega)).more (fun i hi => ⟨fun e => by have := hSg i e; omega, by omega⟩) (fun i hi => hi.2)
  have hb7 : Has w7 (Fre S w7) pb mb := (hb6.off O7 (fun i hi e => by omega)).more (fun i hi => ⟨fun e => by have := hSg i e; omega, by omega⟩) (fun i hi => hi.2)
  have k7 : Below w.heap.size w w7 := k6.trans (O7.below (fun i hi => by omega) (by omega))
  clear hS ha6 hb6 F6 hr6 hkeys O7 k6
  go_wp2_with fail
  have HL := look_in w7 S g [n0, n1, n2] F7 1 n1 rfl
  rw [show ((1 : Nat) : Int) = 1 from rfl] at HL
  refine HL.mono ?_
  rintro e w8 ⟨mx, rfl, hkx, hmx, hfx, b8⟩
  have hx := Has.box (S := S) hmx (fun i hi => F7.inw i hi) b8.size
  obtain ⟨wx, hwx⟩ : ∃ wx, wx = w8.alloc (.cells (mc mx).toArray 54) := ⟨_, rfl⟩
  rw [← hwx] at hx
  have b9 : Below w7.heap.size w7 wx := by rw [hwx]; exact b8.alloc b8.size _
  obtain ⟨px, hpx⟩ : ∃ px, px = w8.heap.size := ⟨_, rfl⟩
  rw [← hpx] at hx
  have F9 := F7.below b9
  have ha9 := ha7.fre (Off.of b9)
  have hb9 := hb7.fre (Off.of b9)
  have k9 := next_below k7 b9
  clear HL hmx F7 ha7 hb7
  simp only [mc] at hwx ⊢
  go_wp2_with fail
  rw [← hwx, ← hpx]
  have HT := take_in wx S g [n0, n1, n2] F9 0 n0 rfl
  rw [show ((0 : Nat) : Int) = 0 from rfl] at HT
  refine HT.mono ?_
  rintro e w10 ⟨my, rfl, hky, hmy, hfy, F10, O10⟩
  rw [show [n0, n1, n2].eraseIdx 0 = [n1, n2] from rfl] at F10
  have hy := Has.box (S := S) hmy (fun i hi => F9.inw i hi) O10.size
  obtain ⟨wy, hwy⟩ : ∃ wy, wy = w10.alloc (.cells (mc my).toArray 54) := ⟨_, rfl⟩
  rw [← hwy] at hy
  have b11 : Below w10.heap.size w10 wy := by rw [hwy]; exact (Below.refl _ _).alloc (Nat.le_refl _) _
  have O11 : Off S wx wy := O10.trans (Off.of b11)
  obtain ⟨py, hpy⟩ : ∃ py, py = w10.heap.size := ⟨_, rfl⟩
  rw [← hpy] at hy
  have F11 := F10.below b11
  have ha11 := ha9.fre O11
  have hb11 := hb9.fre O11
  have hx11 := hx.fre O11
  have k11 : Below w.heap.size w wy := k9.trans (O11.below (fun i hi => Nat.le_trans hgB (hSg i hi)) k9.size)
  clear HT hmy F9 F10 ha9 hb9 hx hwx hpx O10 b11 O11 k9 b9 b8 hz7 k7
  simp only [mc] at hwy ⊢
  go_wp2_with fail
  rw [← hwy, ← hpy]
  have HL := look_in wy S g [n1, n2] F11 1 n2 rfl
  rw [show ((1 : Nat) : Int) = 1 from rfl] at HL
  refine HL.mono ?_
  rintro e w12 ⟨mz, rfl, hkz, hmz, hfz, b12⟩
  have hz := Has.box (S := S) hmz (fun i hi => F11.inw i hi) b12.size
  obtain ⟨wz, hwz⟩ : ∃ wz, wz = w12.alloc (.cells (mc mz).toArray 54) := ⟨_, rfl⟩
  rw [← hwz] at hz
  have b13 : Below wy.heap.size wy wz := by rw [hwz]; exact b12.alloc b12.size _
  obtain ⟨pz, hpz⟩ : ∃ pz, pz = w12.heap.size := ⟨_, rfl⟩
  rw [← hpz] at hz
  have F13 := F11.below b13
  have ha13 := ha11.fre (Off.of b13)
  have hb13 := hb11.fre (Off.of b13)
  have hx13 := hx11.fre (Off.of b13)
  have hy13 := hy.fre (Off.of b13)
  have k13 := next_below k11 b13
  have HWZ := Lib.hid hwz
  have HPZ := Lib.hid hpz
  clear HL hmz F11 ha11 hb11 hx11 hy hwy hpy b12 b13 k11 hwz hpz
  simp only [mc]
  go_upto_region 9 with fail
  simp only [mc] at HWZ
  rw [← HWZ.out, ← HPZ.out]
  clear HWZ HPZ
  obtain ⟨xb0, xb1, xb2, xb3, xb4⟩ := hb13.five
  obtain ⟨xx0, xx1, xx2, xx3, xx4⟩ := hx13.five
  go_wp2_with fail
  refine (sameMsg_yes _ _ mx mb wz hx13.mg hb13.mg (hkx.trans kk1) hx13.inw hb13.inw).mono ?_
  rintro e w14 ⟨rfl, b14⟩
  have F14 := F13.below b14
  have ha14 := ha13.fre (Off.of b14)
  have hy14 := hy13.fre (Off.of b14)
  have hz14 := hz.fre (Off.of b14)
  have k14 := next_below k13 b14
  clear F13 ha13 hb13 hx13 hy13 hz k13 b14 xb0 xb1 xb2 xb3 xb4 xx0 xx1 xx2 xx3 xx4
  obtain ⟨xb0, xb1, xb2, xb3, xb4⟩ := ha14.five
  obtain ⟨xx0, xx1, xx2, xx3, xx4⟩ := hy14.five
  go_wp2_with fail
  refine (sameMsg_yes _ _ my ma w14 hy14.mg ha14.mg (hky.trans kk0) hy14.inw ha14.inw).mono ?_
  rintro e w15 ⟨rfl, b15⟩
  have F15 := F14.below b15
  have ha15 := ha14.fre (Off.of b15)
  have hz15 := hz14.fre (Off.of b15)
  have k15 := next_below k14 b15
  clear F14 ha14 hy14 hz14 k14 b15 xb0 xb1 xb2 xb3 xb4 xx0 xx1 xx2 xx3 xx4
  obtain ⟨xb0, xb1, xb2, xb3, xb4⟩ := ha15.five
  obtain ⟨xx0, xx1, xx2, xx3, xx4⟩ := hz15.five
  go_wp2_with fail
  refine (sameMsg_yes _ _ mz ma w15 hz15.mg ha15.mg (hkz.trans kk2) hz15.inw ha15.inw).mono ?_
  rintro e w16 ⟨rfl, b16⟩
  have F16 := F15.below b16
  have k16 := next_below k15 b16
  have hkk : [n1, n2].map mkey = [mb, ma].map mkey := by simp only [List.map_cons, List.map_nil, kk1, kk2]
  clear F15 ha15 hz15 k15 b16 xb0 xb1 xb2 xb3 xb4 xx0 xx1 xx2 xx3 xx4
  go_wp2_with fail
  refine (between_fix w16 S g [n1, n2] F16 0 1 1 [mb, ma] hkk hFA1).mono ?_
  rintro e w17 ⟨rfl, b17⟩
  have F17 := F16.below b17
  have k17 := next_below k16 b17
  clear F16 k16 b17
  go_wp2_with fail
  refine (between_fix w17 S g [n1, n2] F17 1 1 (-1) [mb, ma] hkk hFA2).mono ?_
  rintro e w18 ⟨rfl, b18⟩
  have F18 := F17.below b18
  have k18 := next_below k17 b18
  clear F17 k17 b18
  go_wp2_with fail
  refine (len_any w18 S g [n1, n2] F18).mono ?_
  rintro e _ ⟨rfl, rfl⟩
  go_wp2
  go_ret
  exact ⟨rfl, k18⟩
end Go.Proofs.Ytcidmlpjobdakaa
