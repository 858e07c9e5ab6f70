/- StreamKnown. -/
import Derived.Test.YtcidmlpjobdakaaStI
import Derived.Test.YtcidmlpjobdakaaStJ
namespace Go.Proofs.Ytcidmlpjobdakaa
set_option linter.unusedSimpArgs false
set_option linter.unusedVariables false
set_option linter.unnecessarySimpa false
open Go.RowKit

/-- The chapter's places and sizes. -/
def ends8 : List Int := [-9223372036854775808, -1, 0, 1, 2, 3, 4, 9223372036854775807]
theorem ends8_ok : ∀ z ∈ ends8, -9223372036854775808 ≤ z ∧ z ≤ 9223372036854775807 := by
  intro z hz
  simp [ends8] at hz
  rcases hz with rfl | rfl | rfl | rfl | rfl | rfl | rfl | rfl <;> exact ⟨by decide, by decide⟩
theorem RL.tail {w : World} {P : Nat → Prop} {b off n : Nat} {l : List En} {k : Nat} (h : RL w P (some ⟨b, off, none⟩) n l) (hk : k ≤ n) : RL w P (some ⟨b, off + k * 13, none⟩) (n - k) (l.drop k) := by
  have h1 := RL.cut (cap := n + 1) h hk (by omega)
  rw [if_neg (by omega)] at h1
  have e1 : (some ⟨b, off, none⟩ : Option Addr).map (·.add (k * 13)) = some ⟨b, off + k * 13, none⟩ := by
    show some ((⟨b, off, none⟩ : Addr).add (k * 13)) = _
    congr 1
    unfold Addr.add; split <;> simp_all
  rwa [e1] at h1
theorem box_new (W : World) (r : En) : W.alloc (.cells (nc r).toArray 39) = W.alloc (.cells (nc r).toArray 39) ∧ (W.alloc (.cells (nc r).toArray 39)).heap[W.heap.size]? = some (.cells (nc r).toArray 39 (0, 0)) := ⟨rfl, World.alloc_heap_new W _⟩
/-- An entry in a box: its cells; one of them written. -/
def BoxE (W : World) (B : Nat) (r : En) : Prop := W.heap[B]? = some (.cells (nc r).toArray 39 (0, 0))
theorem BoxE.cell {W : World} {B : Nat} {r : En} (h : BoxE W B r) (j : Nat) (u : Value) (hu : (nc r)[j]? = some u) : W.cell? ⟨B, j, none⟩ = some u := by
  unfold BoxE at h
  simp [World.cell?, h, hu]
theorem BoxE.froz {W : World} {B : Nat} {r : En} (h : BoxE W B r) (j : Nat) : W.frozen? ⟨B, j, none⟩ = false := by
  unfold BoxE at h
  simp [World.frozen?, h]
theorem BoxE.set {W : World} {B : Nat} {r r' : En} {j : Nat} {u : Value} (h : BoxE W B r) (hr : (nc r).set j u = nc r') : BoxE (W.setCell ⟨B, j, none⟩ u) B r' := by
  unfold BoxE at *
  simp only [World.setCell, Array.getElem?_modify, h]
  rw [← hr]
  simp
theorem tmod_nat (k m : Nat) : (k : Int).tmod (m : Int) = ((k % m : Nat) : Int) := by rw [Int.tmod_eq_emod_of_nonneg (by omega)]; rfl
theorem tdiv_nat (k m : Nat) : (k : Int).tdiv (m : Int) = ((k / m : Nat) : Int) := by rw [Int.tdiv_eq_ediv_of_nonneg (by omega)]; rfl
/-- An entry of the chapter's list. -/
def enK (a s t : Int) (β : Bool) (y0 y1 : Int) : En := ⟨⟨0, s, 0, none, 0, 0, [], t, a, 0, 0, 0, 0⟩, β, y0, y1⟩

set_option maxHeartbeats 3200000 in
set_option maxRecDepth 100000 in
theorem streamKnown_walk (w : World) : Calls Try.prog 7 #[] w fun r w' => r = .returned (.bool true) ∧ Below w.heap.size w w' := by
  go_enter Try.func7, Try.ntmps7
  go_upto_region 2 with fail
  obtain ⟨w0, hw0⟩ : ∃ W, W = w.alloc (.cells (ints ends8).toArray 3) := ⟨_, rfl⟩
  have E0 : RI w0 (fun i => i = w.heap.size) (some ⟨w.heap.size, 0, none⟩) 8 ends8 := by
    refine ⟨⟨by simp [ends8], fun _ => ⟨w.heap.size, 0, rfl, rfl, fun j u hu => ?_⟩⟩, ends8_ok⟩
    rw [Nat.zero_add, hw0, World.cell?_alloc_at _ _ _ _ rfl]
    simpa [ints] using hu
  have b0 : Below w.heap.size w w0 := by rw [hw0]; exact (Below.refl _ _).alloc (Nat.le_refl _) _
  have z0 : w0.heap.size = w.heap.size + 1 := by rw [hw0]; simp
  simp only [ints, ends8, List.map_cons, List.map_nil] at hw0
  rw [← hw0]
  obtain ⟨ge, hge⟩ : ∃ ge, ge = w.heap.size := ⟨_, rfl⟩
  rw [← hge] at E0 z0 ⊢
  have hge0 : w.heap.size ≤ ge := by omega
  clear hw0 hge
  go_wp2
  go_loopw [2, 3] (fun v i wr => ∃ (k : Nat) (ns : List En), k ≤ 12 ∧ i = .int .i64 k ∧ ns.length = k ∧ (∀ r ∈ ns, (-9223372036854775808 ≤ r.e.b0 ∧ r.e.b0 ≤ 9223372036854775807) ∧ -9223372036854775808 ≤ r.e.b1 ∧ r.e.b1 ≤ 9223372036854775807) ∧ Fresh wr w0.heap.size v ns ∧ Below w0.heap.size w0 wr) (fun _ i _ => 12 - (intOf i).toNat)
  case atStart => exact ⟨0, [], by omega, rfl, rfl, (fun r hr => by cases hr), Fresh.nil _ _, Below.refl _ _⟩
  case round =>
    obtain ⟨k, ns, hk, rfl, hl, hI, hF, hB⟩ := hrel
    by_cases hlt : k < 12
    · have d1 : decide ((k : Int) < 12) = true := by simp; omega
      have d1' : decide (k < 12) = true := by simp; omega
      have t3 : (k : Int).tmod 3 = ((k % 3 : Nat) : Int) := tmod_nat k 3
      have t5 : (k : Int).tmod 5 = ((k % 5 : Nat) : Int) := tmod_nat k 5
      have t4 : (k : Int).tmod 4 = ((k % 4 : Nat) : Int) := tmod_nat k 4
      have t2 : (k : Int).tmod 2 = ((k % 2 : Nat) : Int) := tmod_nat k 2
      have q5 : ((k % 5 : Nat) : Int).tdiv 4 = ((k % 5 / 4 : Nat) : Int) := tdiv_nat (k % 5) 4
      have s3 : k % 3 < 3 := by omega
      have s5 : k % 5 < 5 := by omega
      have s4 : k % 4 < 4 := by omega
      have s2 : k % 2 < 2 := by omega
      have s1 : k % 5 / 4 < 5 := by omega
      generalize k % 5 / 4 = d5 at *
      generalize k % 3 = a3 at *
      generalize k % 5 = a5 at *
      generalize k % 4 = a4 at *
      generalize k % 2 = a2 at *
      have w3 : IntKind.i64.wrap ((k : Int).tmod 3) = (a3 : Int) := by rw [t3]; exact IntWalk.i64_in _ (by omega)
      have w5 : IntKind.i64.wrap ((k : Int).tmod 5) = (a5 : Int) := by rw [t5]; exact IntWalk.i64_in _ (by omega)
      have w4 : IntKind.i64.wrap ((k : Int).tmod 4) = (a4 : Int) := by rw [t4]; exact IntWalk.i64_in _ (by omega)
      have w2 : IntKind.i64.wrap ((k : Int).tmod 2) = (a2 : Int) := by rw [t2]; exact IntWalk.i64_in _ (by omega)
      have v5 : IntKind.i64.wrap ((a5 : Int).tdiv 4) = (d5 : Int) := by rw [q5]; exact IntWalk.i64_in _ (by omega)
      obtain ⟨β, hβ⟩ : ∃ β : Bool, ((a4 : Int) == 1) = β := ⟨_, rfl⟩
      have HL := Lib.hid hl
      have HI := Lib.hid hI
      have HF := Lib.hid hF
      have hzr := hB.size
      clear hl hI hF
      go_wp2_with fail
      refine (entry_any a3 k wr).mono ?_
      rintro e wE ⟨rfl, bE⟩
      obtain ⟨wA, hwA⟩ : ∃ W, W = wE.alloc (.cells (nc (enOf a3 k)).toArray 39) := ⟨_, rfl⟩
      have BA : BoxE wA wE.heap.size (enOf a3 k) := by rw [hwA]; exact World.alloc_heap_new wE _
      have kA : Below wr.heap.size wr wA := by rw [hwA]; exact bE.alloc bE.size _
      simp only [nc, enOf] at hwA ⊢
      have HWA := Lib.hid hwA
      obtain ⟨B, hB0⟩ : ∃ B, B = wE.heap.size := ⟨_, rfl⟩
      rw [← hB0] at BA
      have hBr : wr.heap.size ≤ B := by have := bE.size; omega
      have HB0 := Lib.hid hB0
      clear hwA hB0 bE
      go_upto_region 7 with fail
      rw [← HWA.out, ← HB0.out]
      have c4 := BA.cell 4 _ rfl
      have f4 := BA.froz 4
      go_upto_region 8 with fail
      obtain ⟨wB, hwB⟩ : ∃ W, W = wA.setCell ⟨B, 4, none⟩ (.int .i64 (d5 : Int)) := ⟨_, rfl⟩
      have BB : BoxE wB B (enK a3 k d5 false 0 0) := by rw [hwB]; exact BA.set rfl
      have kB : Below wr.heap.size wr wB := by rw [hwB]; exact kA.setCell (p := ⟨B, 4, none⟩) hBr _
      rw [← hwB]
      clear hwB BA kA c4 f4
      have c10 := BB.cell 10 _ rfl
      have f10 := BB.froz 10
      go_upto_region 9 with fail
      obtain ⟨wC, hwC⟩ : ∃ W, W = wB.setCell ⟨B, 10, none⟩ (.bool β) := ⟨_, rfl⟩
      have BC : BoxE wC B (enK a3 k d5 β 0 0) := by rw [hwC]; exact BB.set rfl
      have kC : Below wr.heap.size wr wC := by rw [hwC]; exact kB.setCell (p := ⟨B, 10, none⟩) hBr _
      rw [← hwC]
      clear hwC BB kB c10 f10
      have c11 := BC.cell 11 _ rfl
      have c12 := BC.cell 12 _ rfl
      have f11 := BC.froz 11
      have f12 := BC.froz 12
      go_upto_region 10 with fail
      obtain ⟨wD, hwD⟩ : ∃ W, W = (wC.setCell ⟨B, 11, none⟩ (.int .i64 (a2 : Int))).setCell ⟨B, 12, none⟩ (.int .i64 (a3 : Int)) := ⟨_, rfl⟩
      have BD : BoxE wD B (enK a3 k d5 β a2 a3) := by rw [hwD]; exact (BC.set (r' := enK a3 k d5 β a2 0) rfl).set rfl
      have kD : Below wr.heap.size wr wD := by rw [hwD]; exact (kC.setCell (p := ⟨B, 11, none⟩) hBr _).setCell (p := ⟨B, 12, none⟩) hBr _
      rw [← hwD]
      clear hwD BC kC c11 c12 f11 f12
      have c0 := BD.cell 0 _ rfl
      have c1 := BD.cell 1 _ rfl
      have c2 := BD.cell 2 _ rfl
      have c3 := BD.cell 3 _ rfl
      have c4 := BD.cell 4 _ rfl
      have c5 := BD.cell 5 _ rfl
      have c6 := BD.cell 6 _ rfl
      have c7 := BD.cell 7 _ rfl
      have c8 := BD.cell 8 _ rfl
      have c9 := BD.cell 9 _ rfl
      have c10 := BD.cell 10 _ rfl
      have c11 := BD.cell 11 _ rfl
      have c12 := BD.cell 12 _ rfl
      have zD := kD.size
      have hrow : wD.ownsRow w0.heap.size 39 13 u2 k (ns.flatMap nc) := by
        have := (HF.out.below kD).row
        rwa [HL.out] at this
      have hz3 : w0.heap.size ≤ wD.heap.size := by omega
      go_wp2_with (at_builtin; (refine wpList_app1 wD #[.int .i64 0, .int .i64 (k : Int), .int .i64 0, .slice none 0 0, .int .i64 (d5 : Int), .int .i64 (a3 : Int), .int .i64 0, .int .i64 0, .int .i64 0, .int .i64 0, .bool β, .int .i64 (a2 : Int), .int .i64 (a3 : Int)] rfl _ _ 22 rfl w0.heap.size 39 (.agg (nc zeroEn).toArray) 13 120 Try.underlying22 infoEn rfl (by decide) _ k _ hrow rfl rfl rfl (fun u hu => ncs_one [enK a3 k d5 β a2 a3] u (by simpa [nc, enK] using hu)) (by omega) (by omega) hz3 ?_; intro g cap wF hownF hgrF hbF hatF _))
      have F4 : Fresh wF w0.heap.size (.slice (some ⟨g, 0, none⟩) (k + 1) cap) (ns ++ [enK a3 k d5 β a2 a3]) := by
        have := HF.out.push (r := enK a3 k d5 β a2 a3) (g := g) (cap := cap) (w2 := wF) hzr kD (en0 rfl rfl rfl rfl _ _) (by simp [enK]) (by rw [HL.out]; exact hownF) hgrF hatF
        rwa [HL.out] at this
      have HF4 := Lib.hid F4
      have hB4 := hB.trans ((kD.mono hzr).trans hbF)
      have HB4 := Lib.hid hB4
      have hI4 : ∀ r ∈ ns ++ [enK a3 k d5 β a2 a3], (-9223372036854775808 ≤ r.e.b0 ∧ r.e.b0 ≤ 9223372036854775807) ∧ -9223372036854775808 ≤ r.e.b1 ∧ r.e.b1 ≤ 9223372036854775807 := fun r hr => by
        rcases List.mem_append.1 hr with h | h
        · exact HI.out r h
        · obtain rfl := List.mem_singleton.1 h
          show (-9223372036854775808 ≤ (d5 : Int) ∧ (d5 : Int) ≤ 9223372036854775807) ∧ -9223372036854775808 ≤ (a3 : Int) ∧ (a3 : Int) ≤ 9223372036854775807
          omega
      have HI4 := Lib.hid hI4
      have hl4 : (ns ++ [enK a3 k d5 β a2 a3]).length = k + 1 := by rw [List.length_append, HL.out]; rfl
      have HL4 := Lib.hid hl4
      clear F4 hB4 hI4 hl4 hrow hownF hgrF hbF hatF hB kD BD c0 c1 c2 c3 c4 c5 c6 c7 c8 c9 c10 c11 c12
      go_wp2
      go_roundw
      case rel => exact ⟨k + 1, _, by omega, by go_num, HL4.out, HI4.out, HF4.out, HB4.out⟩
      case measure => simp [intOf]; omega
    · obtain rfl : k = 12 := by omega
      obtain ⟨wa, rfl⟩ : ∃ wa, wa = wr := ⟨_, rfl⟩
      have X := hF.inn
      obtain ⟨gl, cl, rfl, hcl, hcl2, hgl, hgl2⟩ := own_at X.row (by omega)
      rw [hl] at hcl X ⊢
      have hE : ∀ W, Below w0.heap.size w0 W → RI W (fun i => i = ge) (some ⟨ge, 0, none⟩) 8 ends8 := fun W h => E0.keep fun i hi => h.block i (by omega)
      have ka : Below w.heap.size w wa := b0.trans (hB.mono (by omega))
      have za := hB.size
      have HI := Lib.hid hI
      have HL := Lib.hid hl
      have HE := Lib.hid hE
      clear hI hF hE hl E0
      go_wp2
      go_loopw [5] (fun i wi => ∃ I : Nat, I ≤ 8 ∧ i = .int .i64 I ∧ Below wa.heap.size wa wi) (fun i _ => 8 - (intOf i).toNat)
      case atStart => exact ⟨0, by omega, rfl, Below.refl _ _⟩
      case round =>
        obtain ⟨I, hI8, rfl, hBi⟩ := hrel
        obtain ⟨wb, rfl⟩ : ∃ wb, wb = wr := ⟨_, rfl⟩
        by_cases hlt : I < 8
        · have d1 : decide ((I : Int) < 8) = true := by simp; omega
          have d1' : decide (I < 8) = true := by simp; omega
          go_wp2
          go_loopw [6] (fun i wi => ∃ J : Nat, J ≤ 8 ∧ i = .int .i64 J ∧ Below wa.heap.size wa wi) (fun i _ => 8 - (intOf i).toNat)
          case atStart => exact ⟨0, by omega, rfl, hBi⟩
          case round =>
            obtain ⟨J, hJ8, rfl, hBj⟩ := hrel
            obtain ⟨wc, rfl⟩ : ∃ wc, wc = wr := ⟨_, rfl⟩
            by_cases hlt2 : J < 8
            · have e1 : decide ((J : Int) < 8) = true := by simp; omega
              have e1' : decide (J < 8) = true := by simp; omega
              have hzc := hBj.size
              have Xc := X.below hBj (Nat.le_refl _)
              have Ec := HE.out wc (hB.trans (hBj.mono za))
              obtain ⟨ba, oa, zi, ei, _, _, hi1, hi2, ci⟩ := Ec.cell hlt
              obtain ⟨bb, ob, zj, ej, _, _, hj1, hj2, cj⟩ := Ec.cell hlt2
              cases ei
              cases ej
              rw [Nat.zero_add] at ci cj
              obtain ⟨ι, W, hne, hW0, hWB, hWall⟩ := family wc.heap.size wc
              have hgc : ge < wc.heap.size := by omega
              have ci' : ∀ m, (W m).cell? ⟨ge, I, none⟩ = some (.int .i64 zi) := fun m => ((hWB m).cell (p := ⟨ge, I, none⟩) hgc).trans ci
              have cj' : ∀ m, (W m).cell? ⟨ge, J, none⟩ = some (.int .i64 zj) := fun m => ((hWB m).cell (p := ⟨ge, J, none⟩) hgc).trans cj
              have LL : ∀ m, RL (W m) (fun i => w0.heap.size ≤ i ∧ i < wa.heap.size) (some ⟨gl, 0, none⟩) 12 ns := fun m => Xc.list.1.keep fun i hi => (hWB m).block i (by omega)
              have EE : ∀ m, RI (W m) (fun i => i = ge) (some ⟨ge, 0, none⟩) 8 ends8 := fun m => Ec.keep fun i hi => (hWB m).block i (by omega)
              have PP : ∀ m i, (w0.heap.size ≤ i ∧ i < wa.heap.size) → i < (W m).heap.size := fun m i hi => by have := (hWB m).size; omega
              have GG : ∀ m i, (w0.heap.size ≤ i ∧ i < wa.heap.size) ∨ i = ge → i < (W m).heap.size := fun m i hi => by have := (hWB m).size; omega
              have t4 : (J : Int).tmod 4 = ((J % 4 : Nat) : Int) := tmod_nat J 4
              have t3 : (J : Int).tmod 3 = ((J % 3 : Nat) : Int) := tmod_nat J 3
              have t2 : (I : Int).tmod 2 = ((I % 2 : Nat) : Int) := tmod_nat I 2
              have s4 : J % 4 < 4 := by omega
              have s3 : J % 3 < 3 := by omega
              have s2 : I % 2 < 2 := by omega
              generalize J % 4 = j4 at *
              generalize J % 3 = j3 at *
              generalize I % 2 = i2 at *
              have w4 : IntKind.i64.wrap ((J : Int).tmod 4) = (j4 : Int) := by rw [t4]; exact IntWalk.i64_in _ (by omega)
              have w3 : IntKind.i64.wrap ((J : Int).tmod 3) = (j3 : Int) := by rw [t3]; exact IntWalk.i64_in _ (by omega)
              have w2 : IntKind.i64.wrap ((I : Int).tmod 2) = (i2 : Int) := by rw [t2]; exact IntWalk.i64_in _ (by omega)
              have n1 : ¬ cl = I := by omega
              have hI0 : (0 : Int) ≤ (I : Int) := by omega
              have hJ0 : (0 : Int) ≤ (J : Int) := by omega
              have hI1 : (I : Int) < 8 := by omega
              have hJ1 : (J : Int) < 8 := by omega
              have L1 := Lib.hid LL
              have L2 := Lib.hid fun m => (LL m).take (k := I) (by omega)
              have L3 := Lib.hid fun m => (LL m).take (k := I + j4) (by omega)
              have L4 := Lib.hid (show ∀ m, RL (W m) (fun i => w0.heap.size ≤ i ∧ i < wa.heap.size) (some ⟨gl, I * 13, none⟩) (12 - I) (ns.drop I) from fun m => by have := (LL m).tail (k := I) (by omega); rwa [Nat.zero_add] at this)
              have L5 := Lib.hid fun m => (LL m).more (Q := fun i => (w0.heap.size ≤ i ∧ i < wa.heap.size) ∨ i = ge) fun i hi => .inl hi
              have E5 := Lib.hid (show ∀ m, RI (W m) (fun i => (w0.heap.size ≤ i ∧ i < wa.heap.size) ∨ i = ge) (some ⟨ge, 0, none⟩) 8 ends8 from fun m => ⟨(EE m).1.more fun i hi => .inr hi, (EE m).2⟩)
              have HP := Lib.hid PP
              have HWB := Lib.hid hWB
              have HWall := Lib.hid hWall
              have HQ := Lib.hid GG
              have HI3 := Lib.hid (show ∀ r ∈ ns.take (I + j4), (-9223372036854775808 ≤ r.e.b0 ∧ r.e.b0 ≤ 9223372036854775807) ∧ -9223372036854775808 ≤ r.e.b1 ∧ r.e.b1 ≤ 9223372036854775807 from fun r hr => HI.out r (List.mem_of_mem_take hr))
              clear LL EE PP GG hWB hWall ci cj Ec Xc
              have C1 := Lib.hid (show ∀ m, Calls Try.prog 3 #[.slice (some ⟨gl, 0, none⟩) 12 cl, .int .i64 0, .int .i64 1, .int .i64 zi, .int .i64 zj] (W m) fun e w'' => e = .returned (.bool true) ∧ ∃ k, w'' = W k from fun m => calls_family (streamReads_any _ (some ⟨gl, 0, none⟩) 12 cl ns 0 1 zi zj (W m) (L1.out m) (HP.out m) (by decide)) HWB.out (Nat.le_refl _) HWall.out)
              have C2 := Lib.hid (show ∀ m, Calls Try.prog 3 #[.slice (some ⟨gl, 0, none⟩) I cl, .int .i64 zj, .int .i64 0, .int .i64 0, .int .i64 2] (W m) fun e w'' => e = .returned (.bool true) ∧ ∃ k, w'' = W k from fun m => calls_family (streamReads_any _ (some ⟨gl, 0, none⟩) I cl (ns.take I) zj 0 0 2 (W m) (L2.out m) (HP.out m) (by omega)) HWB.out (Nat.le_refl _) HWall.out)
              have C3 := Lib.hid (show ∀ m, Calls Try.prog 3 #[.slice (some ⟨gl, 0, none⟩) 12 cl, .int .i64 0, .int .i64 zi, .int .i64 zj, .int .i64 1] (W m) fun e w'' => e = .returned (.bool true) ∧ ∃ k, w'' = W k from fun m => calls_family (streamReads_any _ (some ⟨gl, 0, none⟩) 12 cl ns 0 zi zj 1 (W m) (L1.out m) (HP.out m) (by decide)) HWB.out (Nat.le_refl _) HWall.out)
              have C4 := Lib.hid (show ∀ m, Calls Try.prog 4 #[.slice (some ⟨gl, 0, none⟩) 12 cl, .int .i64 (i2 : Int), .int .i64 (j3 : Int), .slice (some ⟨ge, 0, none⟩) 8 8] (W m) fun e w'' => e = .returned (.bool true) ∧ ∃ k, w'' = W k from fun m => calls_family (streamPieces_any _ (some ⟨gl, 0, none⟩) 12 cl ns i2 j3 (some ⟨ge, 0, none⟩) 8 8 ends8 (W m) (L5.out m) (HQ.out m) (by decide) (E5.out m) (by decide)) HWB.out (Nat.le_refl _) HWall.out)
              have C5 := Lib.hid (show ∀ m, Calls Try.prog 5 #[.slice (some ⟨gl, 0, none⟩) (I + j4) cl] (W m) fun e w'' => e = .returned (.bool true) ∧ ∃ k, w'' = W k from fun m => calls_family (streamParts_any _ (some ⟨gl, 0, none⟩) (I + j4) cl (ns.take (I + j4)) (W m) (L3.out m) (HP.out m) (by omega) HI3.out) HWB.out (Nat.le_refl _) HWall.out)
              have C6 := Lib.hid (show ∀ m, Calls Try.prog 6 #[.slice (some ⟨gl, I * 13, none⟩) (12 - I) (cl - I)] (W m) fun e w'' => e = .returned (.bool true) ∧ ∃ k, w'' = W k from fun m => calls_family (streamVoids_any _ (some ⟨gl, I * 13, none⟩) (12 - I) (cl - I) (ns.drop I) (W m) (L4.out m) (HP.out m) (by omega) (by omega) (by omega)) HWB.out (Nat.le_refl _) HWall.out)
              go_upto_region 17 with fail
              refine wp_region_family (by kernel_rfl) (by kernel_rfl) hW0 ?_
              repeat (go_big_quiet_step ((first
                | (go_at_call 3; first | with_reducible exact C1.out _ | with_reducible exact C2.out _ | with_reducible exact C3.out _)
                | (go_at_call 4; with_reducible exact C4.out _)
                | (go_at_call 5; with_reducible exact C5.out _)
                | (go_at_call 6; with_reducible exact C6.out _))))
              refine wpQuiet_nil ?_
              rintro _ ⟨nq, rfl⟩
              have B2 := Lib.hid (hBj.trans ((HWB.out nq).mono hzc))
              clear hne hW0 ci' cj' hBj hB hBi
              go_wp2
              go_roundw
              case rel => exact ⟨J + 1, by omega, by go_num, B2.out⟩
              case measure => simp [intOf]; omega
            · obtain rfl : J = 8 := by omega
              have HBJ := Lib.hid hBj
              clear hBj
              go_wp2
              go_roundw
              case rel => exact ⟨I + 1, by omega, by go_num, HBJ.out⟩
              case measure => simp [intOf]; omega
        · obtain rfl : I = 8 := by omega
          have kb := next_below ka hBi
          clear hB hBi ka
          go_wp2_with fail
          refine (works14 wb).mono ?_
          rintro e w4 ⟨rfl, b4⟩
          have k4 := next_below kb b4
          go_wp2
          go_ret
          exact ⟨rfl, k4⟩
end Go.Proofs.Ytcidmlpjobdakaa
