/- The contract of quaysideref03.Scan. -/
import Derived.Test.YtinenekbdcbcnaaDoorFrGet
namespace Go.Proofs.YtinenekbdcbcnaaDoor
open Go.RowKit

theorem Fr.Steps.small {bs : List (BitVec 8)} {l : List Fr.Kb} {i : Nat} (h : Fr.Steps bs l i) : ∀ f ∈ l, f.2.length ≤ 65536 := by
  induction h with
  | nil => intro f hf; cases hf
  | snoc _ he ih =>
    rename_i l i _
    intro f hf
    rcases List.mem_append.1 hf with h | h
    · exact ih f h
    · simp at h; subst h
      rcases Fr.getL_cases (bs.drop i) with ⟨hne, _⟩ | ⟨_, _, _, hL, _, _, hg⟩
      · exact absurd he hne
      · show (Fr.getL (bs.drop i)).2.1.length ≤ 65536
        rw [hg]
        simp only [List.length_take]
        omega
/-- The bodies of frames are rows of the call's own, each apart from the list. -/
def Kept1 (base : Nat) (w : World) (v : Value) (fs : List Fm) : Prop := ∀ r ∈ fs, w.ownsRow base 5 1 (.slice r.A r.n r.c) r.n (bytes r.body) ∧ (bk r = none ∨ bk r ≠ v.ownBlock)
theorem Kept1.bods {base : Nat} {w : World} {v : Value} {fs : List Fm} (h : Kept1 base w v fs) : Bods w fs := fun r hr => by
  have o := (h r hr).1
  obtain ⟨A, c, e, h1, h2, _⟩ := own_form o
  cases e
  exact ⟨(own_reads o).more fun _ h => h.2, h1, h2⟩
theorem Kept1.next {base : Nat} {wr w8 w9 : World} {v v9 : Value} {fs : List Fm} {g9 : Nat} {r : Fm} (H : Kept1 base wr v fs) (hv : ∀ k, v.ownBlock = some k → k < wr.heap.size) (B8 : Below wr.heap.size wr w8)
    (o7 : w8.ownsRow wr.heap.size 5 1 (.slice r.A r.n r.c) r.n (bytes r.body)) (hbase : base ≤ wr.heap.size) (gr : w8.grownBy w9 v.ownBlock) (hv9 : v9.ownBlock = some g9) (hg : v.ownBlock = some g9 ∨ w8.heap.size ≤ g9) : Kept1 base w9 v9 (fs ++ [r]) := by
  have ne : ∀ {u : Value} {m : Nat} {xs : List Value}, w8.ownsRow base 5 1 u m xs → (u.ownBlock = none ∨ u.ownBlock ≠ v.ownBlock) → (u.ownBlock = none ∨ u.ownBlock ≠ v9.ownBlock) := by
    intro u m xs ou h
    rcases h with h | h
    · exact .inl h
    · refine .inr fun e' => ?_
      rw [hv9] at e'
      rcases hg with h2 | h2
      · exact h (e'.trans h2.symm)
      · have := (ou.lt _ e').2; omega
  intro s hs
  rcases List.mem_append.1 hs with h | h
  · have o := own_below (H s h).1 B8
    exact ⟨o.kept gr (H s h).2, ne o (H s h).2⟩
  · simp at h; subst h
    have hap : (Value.slice s.A s.n s.c).ownBlock = none ∨ (Value.slice s.A s.n s.c).ownBlock ≠ v.ownBlock := by
      rcases hb : (Value.slice s.A s.n s.c).ownBlock with _ | x
      · exact .inl rfl
      · exact .inr fun e => by have h1 := (o7.lt x hb).1; have h2 := hv x e.symm; omega
    have o := own_base o7 hbase
    exact ⟨o.kept gr hap, ne o hap⟩

set_option maxHeartbeats 1600000 in
set_option maxRecDepth 100000 in
theorem refScan_any (A : Option Addr) (n c : Nat) (bs : List (BitVec 8)) (w : World) (hb : RB w (· < w.heap.size) A n bs) (hn : n ≤ 1099511627000) (hc : n ≤ c) (hc2 : c ≤ 9223372036854775807) :
    Calls Tryd.prog 38 #[.slice A n c] w fun e w' => ∃ v fs at_, e = .returned (.tuple #[v, .int .i64 (at_ : Nat)]) ∧ w'.ownsRow w.heap.size 48 2 v fs.length (fcs fs) ∧ Bods w' fs ∧ Fr.Steps bs (fs.map fkey) at_ ∧
      Fr.errL (bs.drop at_) ≠ 0 ∧ Below w.heap.size w w' := by
  go_enter Tryd.func38, Tryd.ntmps38
  go_wp2
  go_loopw [4, 5] (fun s4 s5 wr => ∃ (fs : List Fm) (at_ : Nat), s5 = .int .i64 at_ ∧ at_ ≤ n ∧ fs.length ≤ at_ ∧ wr.ownsRow w.heap.size 48 2 s4 fs.length (fcs fs) ∧ Kept1 w.heap.size wr s4 fs ∧ Fr.Steps bs (fs.map fkey) at_ ∧ Below w.heap.size w wr) (fun _ s5 _ => n - (intOf s5).toNat)
  case atStart => exact ⟨[], 0, rfl, by omega, by simp, World.ownsRow_nil _ _ _ _, fun r hr => (by cases hr), Fr.Steps.nil, Below.refl _ _⟩
  case round =>
    obtain ⟨fs, at_, rfl, hle, hfew, hown, hkept, hst, hB⟩ := hrel
    have hsz := hB.size
    have hlt := hown.lt
    have hcut := ((hb.below hB).cut (k := at_) (cap := c) hle hc).more (Q := (· < wr.heap.size)) fun i hi => Nat.lt_of_lt_of_le hi hsz
    have hi0 : (0 : Int) ≤ (at_ : Int) := by omega
    have hi1 : (at_ : Int) ≤ (n : Int) := by omega
    obtain ⟨D, hD⟩ : ∃ D, D = bs.drop at_ := ⟨_, rfl⟩
    rw [← hD] at hcut
    obtain ⟨M, hM⟩ : ∃ M, M = fs.length := ⟨_, rfl⟩
    rw [← hM] at hown hfew
    have HD := Lib.hid hD
    have HM := Lib.hid hM
    clear hD hM
    go_wp2_with fail
    all_goals
      (first | (have h' := h.symm; clear h; subst h'; rw [if_pos rfl] at hcut) | rw [if_neg (by assumption)] at hcut
       refine (refGet_any _ _ _ _ wr hcut (by omega) (by omega) (by omega)).mono ?_
       rintro e w7 ⟨v7, rfl, o7, B7⟩
       obtain ⟨A7, c7, rfl, _⟩ := own_form o7
       by_cases he : (Fr.getL D).2.2.2 = 0
       · have hpos := Fr.getL_pos he
         have hDl : D.length = n - at_ := by rw [HD.out, List.length_drop, hb.len]
         obtain ⟨m, hm⟩ : ∃ m, m = (Fr.getL D).2.2.1 := ⟨_, rfl⟩
         obtain ⟨kd, hkd⟩ : ∃ kd, kd = (Fr.getL D).1 := ⟨_, rfl⟩
         obtain ⟨bd, hbd⟩ : ∃ bd, bd = (Fr.getL D).2.1 := ⟨_, rfl⟩
         obtain ⟨n7, hn7⟩ : ∃ n7, n7 = bd.length := ⟨_, rfl⟩
         rw [← hbd, ← hn7] at o7
         rw [he, ← hm, ← hkd, ← hbd, ← hn7]
         rw [← hm, hDl] at hpos
         first
         | (exfalso; omega)
         | (have hs2 := Fr.Steps.snoc hst (by rw [← HD.out]; exact he)
            have ekb : Fr.kb (bs.drop at_) = fkey ⟨(kd : Int), A7, n7, c7, bd⟩ := by rw [← HD.out, hkd, hbd]; rfl
            rw [ekb, ← HD.out, ← hm, ← List.map_singleton (f := fkey), ← List.map_append] at hs2
            obtain ⟨at2, hat2⟩ : ∃ at2, at2 = at_ + m := ⟨_, rfl⟩
            rw [← hat2] at hs2
            have hwr : IntKind.i64.wrap ((at_ : Int) + (m : Int)) = (at2 : Int) := (IntWalk.i64_in _ (by omega)).trans (by omega)
            obtain ⟨w8, hw8⟩ : ∃ W, W = w7.alloc (.cells #[.int .i64 (kd : Int), .slice A7 n7 c7] 48) := ⟨_, rfl⟩
            have b8 : Below w7.heap.size w7 w8 := by rw [hw8]; exact (Below.refl _ _).alloc (Nat.le_refl _) _
            have B8 := next_below B7 b8
            have o8 := own_below o7 b8
            have own8 := own_below hown B8
            have z8 : w.heap.size ≤ w8.heap.size := Nat.le_trans hsz B8.size
            have q0 : w8.cell? ⟨w7.heap.size, 0, none⟩ = some (.int .i64 (kd : Int)) := by rw [hw8, World.cell?_alloc_new]; rfl
            have q1 : w8.cell? ⟨w7.heap.size, 1, none⟩ = some (.slice A7 n7 c7) := by rw [hw8, World.cell?_alloc_new]; rfl
            have SZ := Lib.hid (show w8.heap.size = w7.heap.size + 1 from by rw [hw8]; simp)
            have HW := Lib.hid hw8
            have HA := Lib.hid hat2
            have HS := Lib.hid hs2
            clear hm hkd hbd hn7 he ekb hs2 hw8 hat2 o7 b8 hown hcut
            go_wp2_with (at_builtin; go_loud (rw [← show w8 = _ from HW.out]); go_loud (refine wpList_app1 w8 #[.int .i64 (kd : Int), .slice A7 n7 c7] rfl _ _ 40 rfl w.heap.size 48 (.agg #[.int .i64 0, .slice none 0 0]) 2 32 Tryd.underlying40 infoFrame rfl (by decide) _ M _ own8 rfl ?hx rfl (fcs_one [(⟨(kd : Int), A7, n7, c7, bd⟩ : Fm)]) (by omega) (by omega) z8 ?_); (case hx => go_loud (simp [Act.eval, SZ.out])); intro g9 cap9 w9 o9 gr9 hb9 hv9 hg9)
            have K9 := Kept1.next (r := ⟨(kd : Int), A7, n7, c7, bd⟩) (v9 := .slice (some ⟨g9, 0, none⟩) (M + 1) cap9) hkept (fun k hk => (hlt k hk).2) B8 o8 hsz gr9 rfl hv9
            have O9 : w9.ownsRow w.heap.size 48 2 (.slice (some ⟨g9, 0, none⟩) (M + 1) cap9) (fs ++ [(⟨(kd : Int), A7, n7, c7, bd⟩ : Fm)]).length (fcs (fs ++ [(⟨(kd : Int), A7, n7, c7, bd⟩ : Fm)])) := by rw [fcs_append, List.length_append, ← HM.out]; exact o9
            have B9 := (hB.trans (B8.mono hsz)).trans hb9
            clear o9 gr9 hb9 hv9 o8 own8 q0 q1
            go_wp2
            go_roundw
            case rel => exact ⟨fs ++ [(⟨(kd : Int), A7, n7, c7, bd⟩ : Fm)], at2, rfl, by have := HA.out; omega, by rw [List.length_append, ← HM.out, HA.out]; simp; omega, O9, K9, HS.out, B9⟩
            case measure => have h1 := HA.out; simp only [intOf, Int.toNat_natCast]; omega)
       · have dE : ((Fr.getL D).2.2.2 != 0) = true := by simp [he]
         have he2 : Fr.errL (bs.drop at_) ≠ 0 := by rw [← HD.out]; exact he
         have kb7 : Bods w7 fs := hkept.bods.below B7
         have k8 := ((hB.trans (B7.mono hsz)).alloc (Nat.le_trans hsz B7.size) (.cells #[.int .i64 ((Fr.getL D).1 : Int), .slice A7 (Fr.getL D).2.1.length c7] 48))
         have ko := own_below hown B7
         rw [HM.out] at ko
         have hal : Below w7.heap.size w7 (w7.alloc (.cells #[.int .i64 ((Fr.getL D).1 : Int), .slice A7 (Fr.getL D).2.1.length c7] 48)) := (Below.refl _ _).alloc (Nat.le_refl _) _
         have ko2 := own_below ko hal
         have kb8 := kb7.below hal
         clear o7 hcut
         go_wp2
         go_ret2
         exact ⟨_, fs, at_, rfl, ko2, kb8, hst, he2, k8⟩)
end Go.Proofs.YtinenekbdcbcnaaDoor
