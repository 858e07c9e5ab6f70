/- The contract of frame.Scan. -/
import Derived.Test.YtinenekbdcbcnaaDoorFrS
namespace Go.Proofs.YtinenekbdcbcnaaDoor
open Go.RowKit

def bk (r : Fm) : Option Nat := (Value.slice r.A r.n r.c).ownBlock
/-- The bodies of frames are rows of the call's own, each apart from the list and from the others. -/
def Kept (base : Nat) (w : World) (v : Value) (fs : List Fm) : Prop :=
  (∀ r ∈ fs, w.ownsRow base 5 1 (.slice r.A r.n r.c) r.n (bytes r.body) ∧ (bk r = none ∨ bk r ≠ v.ownBlock)) ∧ fs.Pairwise (fun r s => bk r = none ∨ bk r ≠ bk s)
theorem Kept.bods {base : Nat} {w : World} {v : Value} {fs : List Fm} (h : Kept base w v fs) : Bods w fs := fun r hr => by
  have o := (h.1 r hr).1
  obtain ⟨A, c, e, h1, h2, _⟩ := own_form o
  cases e
  exact ⟨(own_reads o).more fun _ h => h.2, h1, h2⟩
structure ScanAt (base n : Nat) (bs : List (BitVec 8)) (w wr : World) (v : Value) (fs : List Fm) (at_ g4 : Nat) (A4 : Option Addr) (n4 c4 : Nat) : Prop where
  own : wr.ownsRow base 48 2 v fs.length (fcs fs)
  kept : Kept base wr v fs
  steps : Fr.Steps bs (fs.map fkey) at_
  le : at_ ≤ n
  below : Below base w wr
  gb : base ≤ g4
  glt : g4 < wr.heap.size
  c0 : wr.cell? ⟨g4, 0, none⟩ = some (.int .i64 ((Fr.getL (bs.drop at_)).1 : Int))
  c1 : wr.cell? ⟨g4, 1, none⟩ = some (.slice A4 n4 c4)
  body : wr.ownsRow base 5 1 (.slice A4 n4 c4) n4 (bytes (Fr.getL (bs.drop at_)).2.1)
  apart : (Value.slice A4 n4 c4).ownBlock = none ∨ (Value.slice A4 n4 c4).ownBlock ≠ v.ownBlock
  apart2 : ∀ r ∈ fs, bk r = none ∨ bk r ≠ (Value.slice A4 n4 c4).ownBlock
  apart3 : some g4 ≠ v.ownBlock
  few : fs.length ≤ at_
theorem own_two {w : World} {base : Nat} {e : TypeId} {size : Nat} {v : Value} {n : Nat} {xs : List Value} (h : w.ownsRow base e size v n xs) {g : Nat} (hg : v.ownBlock ≠ some g) (x y : Value) :
    ((w.setCell ⟨g, 0, none⟩ x).setCell ⟨g, 1, none⟩ y).ownsRow base e size v n xs :=
  ownsRow_setCell_other (ownsRow_setCell_other h (a := ⟨g, 0, none⟩) hg x) (a := ⟨g, 1, none⟩) hg y
theorem own_len {w : World} {base : Nat} {e : TypeId} {v : Value} {n : Nat} {bs : List (BitVec 8)} (h : w.ownsRow base e 1 v n (bytes bs)) : bs.length = n := by
  have := h.1; rw [bytes_length] at this; omega
/-- The next frame has come: what was, and the one behind it. -/
theorem ScanAt.next {base n : Nat} {bs : List (BitVec 8)} {w wr w5 w7 : World} {v v5 : Value} {fs : List Fm} {at_ g4 g5 : Nat} {A4 : Option Addr} {n4 c4 : Nat} {A7 : Option Addr} {n7 c7 : Nat} {o : Obj}
    (H : ScanAt base n bs w wr v fs at_ g4 A4 n4 c4) (he : Fr.errL (bs.drop at_) = 0) (hle : at_ + (Fr.getL (bs.drop at_)).2.2.1 ≤ n)
    (ho5 : w5.ownsRow base 48 2 v5 (fs.length + 1) (fcs (fs ++ [⟨((Fr.getL (bs.drop at_)).1 : Int), A4, n4, c4, (Fr.getL (bs.drop at_)).2.1⟩]))) (gr : wr.grownBy w5 v.ownBlock) (hb5 : Below base wr w5)
    (hv5 : v5.ownBlock = some g5) (hv : v.ownBlock = some g5 ∨ wr.heap.size ≤ g5) (hg5 : g5 < w5.heap.size) (B7 : Below (w5.alloc o).heap.size (w5.alloc o) w7)
    (o7 : w7.ownsRow (w5.alloc o).heap.size 5 1 (.slice A7 n7 c7) n7 (bytes (Fr.getL (bs.drop (at_ + (Fr.getL (bs.drop at_)).2.2.1))).2.1))
    (q0 : (w7.cell? ⟨w5.heap.size, 0, none⟩).isSome = true) (q1 : (w7.cell? ⟨w5.heap.size, 1, none⟩).isSome = true) :
    ScanAt base n bs w ((w7.setCell ⟨w5.heap.size, 0, none⟩ (.int .i64 ((Fr.getL (bs.drop (at_ + (Fr.getL (bs.drop at_)).2.2.1))).1 : Int))).setCell ⟨w5.heap.size, 1, none⟩ (.slice A7 n7 c7)) v5
      (fs ++ [⟨((Fr.getL (bs.drop at_)).1 : Int), A4, n4, c4, (Fr.getL (bs.drop at_)).2.1⟩]) (at_ + (Fr.getL (bs.drop at_)).2.2.1) w5.heap.size A7 n7 c7 := by
  have za : (w5.alloc o).heap.size = w5.heap.size + 1 := by simp
  have B5a : Below w5.heap.size w5 (w5.alloc o) := (Below.refl _ _).alloc (Nat.le_refl _) _
  have z5 := gr.size
  have z7 := B7.size
  have zb := H.below.size
  have hg4 := H.gb
  have hg4' := H.glt
  have up : ∀ {e : TypeId} {size : Nat} {u : Value} {m : Nat} {xs : List Value}, w5.ownsRow base e size u m xs → w7.ownsRow base e size u m xs := fun h => own_below (own_below h B5a) B7
  have lt5 : ∀ {e : TypeId} {size : Nat} {u : Value} {m : Nat} {xs : List Value}, w5.ownsRow base e size u m xs → u.ownBlock ≠ some w5.heap.size := fun h e => by have := (h.lt _ e).2; omega
  have l7 := o7.lt
  have b4 := H.body.kept gr H.apart
  have kp : ∀ r ∈ fs, w5.ownsRow base 5 1 (.slice r.A r.n r.c) r.n (bytes r.body) := fun r hr => (H.kept.1 r hr).1.kept gr (H.kept.1 r hr).2
  have ne5 : ∀ {u : Value} {e : TypeId} {size m : Nat} {xs : List Value}, wr.ownsRow base e size u m xs → (u.ownBlock = none ∨ u.ownBlock ≠ v.ownBlock) → (u.ownBlock = none ∨ u.ownBlock ≠ v5.ownBlock) := by
    intro u e size m xs ou h
    rcases h with h | h
    · exact .inl h
    · refine .inr fun e' => ?_
      rw [hv5] at e'
      rcases hv with h2 | h2
      · exact h (e'.trans h2.symm)
      · have := (ou.lt _ e').2; omega
  have hfew := H.few
  have hp9 := (Fr.getL_pos he).1
  refine ⟨?_, ⟨?_, ?_⟩, ?_, hle, ?_, ?_, ?_, ?_, ?_, ?_, ?_, ?_, ?_, by simp; omega⟩
  · rw [List.length_append]; exact own_two (up ho5) (lt5 ho5) _ _
  · intro r hr
    rcases List.mem_append.1 hr with h | h
    · exact ⟨own_two (up (kp r h)) (lt5 (kp r h)) _ _, ne5 (H.kept.1 r h).1 (H.kept.1 r h).2⟩
    · simp at h; subst h
      exact ⟨own_two (up b4) (lt5 b4) _ _, ne5 H.body H.apart⟩
  · refine List.pairwise_append.2 ⟨H.kept.2, by simp, fun r hr s hs => ?_⟩
    simp at hs; subst hs
    exact H.apart2 r hr
  · have := Fr.Steps.snoc H.steps he
    rw [List.map_append]
    exact this
  · have b1 := (H.below.trans hb5).alloc (show base ≤ w5.heap.size by omega) o
    have b2 := b1.trans (B7.mono (show base ≤ (w5.alloc o).heap.size by omega))
    exact (b2.setCell (p := ⟨w5.heap.size, 0, none⟩) (by show base ≤ w5.heap.size; omega) _).setCell (p := ⟨w5.heap.size, 1, none⟩) (by show base ≤ w5.heap.size; omega) _
  · omega
  · simp; omega
  · obtain ⟨u, hu⟩ := Option.isSome_iff_exists.1 q0
    exact (World.cell?_setCell_other _ _ _ _ (by simp)).trans (World.cell?_setCell_same _ _ _ hu)
  · obtain ⟨u, hu⟩ := Option.isSome_iff_exists.1 q1
    exact World.cell?_setCell_same _ _ _ ((World.cell?_setCell_other _ _ _ _ (by simp)).trans hu)
  · exact own_two (own_base o7 (by omega)) (fun e => by have := (l7 _ e).1; omega) _ _
  · refine .inr fun e => ?_
    rw [hv5] at e
    have := (l7 _ e).1; omega
  · intro r hr
    have hr5 : w5.ownsRow base 5 1 (.slice r.A r.n r.c) r.n (bytes r.body) := by
      rcases List.mem_append.1 hr with h | h
      · exact kp r h
      · simp at h; subst h; exact b4
    rcases hbk : bk r with _ | x
    · exact .inl rfl
    · refine .inr fun e => ?_
      have h1 := (hr5.lt x hbk).2
      have h2 := (l7 x e.symm).1
      omega
  · rw [hv5]; intro e; injection e with e; omega

set_option maxHeartbeats 3200000 in
set_option maxRecDepth 100000 in
theorem scan_any (A : Option Addr) (n c : Nat) (bs : List (BitVec 8)) (w : World) (ht : Tabs w) (hb : RB w (· < w.heap.size) A n bs) (hn : n ≤ 1099511627000) (hc : n ≤ c) (hc2 : c ≤ 9223372036854775807) :
    Calls Tryd.prog 29 #[.slice A n c] w fun e w' => ∃ v fs at_, e = .returned (.tuple #[v, .int .i64 (at_ : Nat)]) ∧ w'.ownsRow w.heap.size 48 2 v fs.length (fcs fs) ∧ Kept w.heap.size w' v fs ∧ Fr.Steps bs (fs.map fkey) at_ ∧
      Fr.errL (bs.drop at_) ≠ 0 ∧ at_ ≤ n ∧ Below w.heap.size w w' := by
  go_enter Tryd.func29, Tryd.ntmps29
  go_wp2_with fail
  refine (get_any A n c bs w ht hb hn hc hc2).mono ?_
  rintro e w1 ⟨v1, rfl, o1, b1⟩
  have hl1 := own_len o1
  obtain ⟨A1, c1, rfl, _⟩ := own_form o1
  obtain ⟨n1, hn1⟩ : ∃ n1, n1 = (Fr.getL bs).2.1.length := ⟨_, rfl⟩
  rw [← hn1] at o1 ⊢
  obtain ⟨w2, hw2⟩ : ∃ w2, w2 = w1.alloc (.cells #[.int .i64 ((Fr.getL bs).1 : Int), .slice A1 n1 c1] 48) := ⟨_, rfl⟩
  have b2 : Below w1.heap.size w1 w2 := by rw [hw2]; exact (Below.refl _ _).alloc (Nat.le_refl _) _
  have z2 : w2.heap.size = w1.heap.size + 1 := by rw [hw2]; simp
  have H0 : ScanAt w.heap.size n bs w w2 (.slice none 0 0) [] 0 w1.heap.size A1 n1 c1 := by
    refine ⟨World.ownsRow_nil _ _ _ _, ⟨fun r hr => (by cases hr), List.Pairwise.nil⟩, Fr.Steps.nil, Nat.zero_le _, next_below b1 b2, b1.size, by omega, ?_, ?_, own_below o1 b2, ?_, fun r hr => (by cases hr), fun e => (by cases e), by simp⟩
    · rw [hw2, World.cell?_alloc_new]; rfl
    · rw [hw2, World.cell?_alloc_new]; rfl
    · exact (Option.eq_none_or_eq_some (Value.slice A1 n1 c1).ownBlock).imp id fun ⟨x, hx⟩ => by rw [hx]; exact fun e => by cases e
  have H0' := Lib.hid H0
  clear H0 hn1 hl1 o1 b1 b2
  go_wp2
  rw [← hw2]
  clear hw2
  go_loopw [2, 3, 4, 5, 6] (fun s2 s3 s4 s5 s6 wr => ∃ (fs : List Fm) (at_ g4 : Nat) (A4 : Option Addr) (n4 c4 : Nat), s3 = .int .i64 at_ ∧ s4 = .pointer (some ⟨g4, 0, none⟩) ∧ s5 = .int .i64 ((Fr.getL (bs.drop at_)).2.2.1 : Nat) ∧ s6 = .int .i64 (Fr.getL (bs.drop at_)).2.2.2 ∧
      ScanAt w.heap.size n bs w wr s2 fs at_ g4 A4 n4 c4) (fun _ s3 _ _ _ _ => n - (intOf s3).toNat)
  case atStart => exact ⟨[], 0, w1.heap.size, A1, n1, c1, rfl, rfl, rfl, rfl, H0'.out⟩
  case round =>
    obtain ⟨fs, at_, g4, A4, n4, c4, rfl, rfl, rfl, rfl, H⟩ := hrel
    by_cases he : (Fr.getL (bs.drop at_)).2.2.2 = 0
    · rw [he]
      have hpos := Fr.getL_pos he
      rw [List.length_drop, hb.len] at hpos
      obtain ⟨m, hm⟩ : ∃ m, m = (Fr.getL (bs.drop at_)).2.2.1 := ⟨_, rfl⟩
      obtain ⟨M, hM⟩ : ∃ M, M = fs.length := ⟨_, rfl⟩
      have hown := H.own
      have e0 := H.c0
      have e1 := H.c1
      have hle := H.le
      have hfew := H.few
      rw [← hM] at hfew
      have hbase := H.below.size
      obtain ⟨kd, hkd⟩ : ∃ kd, kd = (Fr.getL (bs.drop at_)).1 := ⟨_, rfl⟩
      rw [← hkd] at e0
      rw [← hm] at hpos ⊢
      rw [← hM] at hown
      have HM := Lib.hid hM
      have Hm := Lib.hid hm
      have HK := Lib.hid hkd
      have HH := Lib.hid H
      have HE := Lib.hid he
      clear hM hm hkd H he
      obtain ⟨at2, hat2⟩ : ∃ at2, at2 = at_ + m := ⟨_, rfl⟩
      have hwr : IntKind.i64.wrap ((at_ : Int) + (m : Int)) = (at2 : Int) := (IntWalk.i64_in _ (by omega)).trans (by omega)
      go_upto_region 5 with (at_builtin; go_loud (refine wpList_app1 wr #[.int .i64 (kd : Int), .slice A4 n4 c4] rfl (.tmp 23) (.tmp 25) 40 rfl w.heap.size 48 (.agg #[.int .i64 0, .slice none 0 0]) 2 32 Tryd.underlying40 infoFrame rfl (by decide) _ M _ hown rfl rfl rfl (fcs_one [⟨(kd : Int), A4, n4, c4, []⟩]) (by omega) (by omega) hbase ?_); intro g5 cap5 w5 o5 gr5 hb5 hv5 hg5)
      have E0 := gr5.cell e0 HH.out.apart3
      have E1 := gr5.cell e1 HH.out.apart3
      have z5 := hb5.size
      have zz := gr5.size
      have Bw5 := HH.out.below.trans hb5
      obtain ⟨o, ho⟩ : ∃ o : Obj, o = .cells #[.int .i64 (kd : Int), .slice A4 n4 c4] 48 := ⟨_, rfl⟩
      have B6 : Below w.heap.size w (w5.alloc o) := Bw5.alloc Bw5.size _
      have hcut := ((hb.below B6).cut (k := at2) (cap := c) (by omega) hc).more (Q := (· < (w5.alloc o).heap.size)) fun i hi => Nat.lt_of_lt_of_le hi B6.size
      have ho5 : w5.ownsRow w.heap.size 48 2 (.slice (some ⟨g5, 0, none⟩) (M + 1) cap5) (fs.length + 1) (fcs (fs ++ [⟨((Fr.getL (bs.drop at_)).1 : Int), A4, n4, c4, (Fr.getL (bs.drop at_)).2.1⟩])) := by
        rw [fcs_append, ← HM.out, ← HK.out]; exact o5
      have dk0 : (w5.alloc o).cell? ⟨w5.heap.size, 0, none⟩ = some (.int .i64 (kd : Int)) := by rw [ho]; exact World.cell?_alloc_at _ _ _ _ rfl
      have dk1 : (w5.alloc o).cell? ⟨w5.heap.size, 1, none⟩ = some (.slice A4 n4 c4) := by rw [ho]; exact World.cell?_alloc_at _ _ _ _ rfl
      have df : ∀ i, (w5.alloc o).frozen? ⟨w5.heap.size, i, none⟩ = false := fun i => by rw [ho]; exact World.frozen?_alloc_at _ _ _ i rfl
      have za : w5.heap.size < (w5.alloc o).heap.size := by simp
      have hi0 : (0 : Int) ≤ (at2 : Int) := by omega
      have hi1 : (at2 : Int) ≤ (n : Int) := by omega
      have hi2 : at2 ≤ n := by omega
      have HO := Lib.hid ho
      have HAT := Lib.hid hat2
      have DF := Lib.hid df
      have DK0 := Lib.hid dk0
      have DK1 := Lib.hid dk1
      clear ho hat2 df dk0 dk1 o5 e0 e1 hpos hle hfew
      go_wp2_with fail
      all_goals
        (rw [← HO.out]
         first | (subst h; rw [if_pos rfl] at hcut) | rw [if_neg (by assumption)] at hcut
         refine (get_any _ _ _ _ (w5.alloc o) (ht.below B6 ht.size) hcut (by omega) (by omega) (by omega)).mono ?_
         rintro e w7 ⟨v7, rfl, o7, B7⟩
         obtain ⟨A7, c7, rfl, _⟩ := own_form o7
         have d0 := (B7.cell (p := ⟨w5.heap.size, 0, none⟩) za).trans DK0.out
         have d1 := (B7.cell (p := ⟨w5.heap.size, 1, none⟩) za).trans DK1.out
         have f0 := (froz_below B7 ⟨w5.heap.size, 0, none⟩ za).trans (DF.out 0)
         have f1 := (froz_below B7 ⟨w5.heap.size, 1, none⟩ za).trans (DF.out 1)
         have NX := ScanAt.next HH.out HE.out (by rw [← Hm.out, ← HAT.out]; exact hi2) ho5 gr5 hb5 rfl hv5 hg5 B7 (by rw [← Hm.out, ← HAT.out]; exact o7) (by rw [d0]; rfl) (by rw [d1]; rfl)
         rw [← Hm.out, ← HAT.out] at NX
         have HN := Lib.hid NX
         clear NX o7 B7 hcut ho5 gr5 hb5 hv5 Bw5 B6
         go_wp2
         go_roundw
         case rel => exact ⟨_, _, w5.heap.size, A7, _, c7, rfl, rfl, rfl, rfl, HN.out⟩
         case measure => have h1 := HAT.out; have h2 := Hm.out; have h3 := (Fr.getL_pos HE.out).1; rw [← h2] at h3; simp only [intOf, Int.toNat_natCast]; omega)
    · have dE : ((Fr.getL (bs.drop at_)).2.2.2 == 0) = false := by simp [he]
      go_wp2
      go_ret2
      exact ⟨_, fs, at_, rfl, H.own, H.kept, H.steps, he, H.le, H.below⟩
end Go.Proofs.YtinenekbdcbcnaaDoor
