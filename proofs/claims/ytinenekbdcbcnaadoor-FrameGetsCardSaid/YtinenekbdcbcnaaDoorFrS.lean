/- SameFrames, row. -/
import Derived.Test.YtinenekbdcbcnaaDoorFrL
import Derived.Test.YtinenekbdcbcnaaDoorFramePuts
import Derived.OneCell
namespace Go.Proofs.YtinenekbdcbcnaaDoor
open Go.RowKit

theorem RB.dn {w : World} {P : Nat → Prop} {A : Option Addr} {n : Nat} {bs : List (BitVec 8)} (h : RB w P A n bs) (q : Nat) : RB (w.drewN q) P A n bs := h
set_option maxHeartbeats 800000 in
theorem sameFrames_yes (P Q : Nat → Prop) (A : Option Addr) (n c : Nat) (xs : List Fm) (B : Option Addr) (d : Nat) (ys : List Fm) (w : World) (ha : RF w P A n xs) (hb : RF w Q B n ys) (hx : Bods w xs) (hy : Bods w ys) (hk : xs.map fkey = ys.map fkey)
    (hn : n ≤ 9223372036854775807) :
    Calls Tryd.prog 30 #[.slice A n c, .slice B n d] w fun e w' => e = .returned (.bool true) ∧ ∃ q, w' = w.drewN q := by
  go_enter Tryd.func30, Tryd.ntmps30
  go_wp2
  go_loopw [5] (fun i wr => ∃ k q : Nat, k ≤ n ∧ i = .int .i64 k ∧ wr = w.drewN q) (fun i _ => n - (intOf i).toNat)
  case atStart => exact ⟨0, 0, by omega, rfl, rfl⟩
  case round =>
    obtain ⟨k, q, hk', rfl, rfl⟩ := hrel
    by_cases hlt : k < n
    · obtain ⟨b, off, r, rfl, _, hr, h0, h1⟩ := ha.cell hlt
      obtain ⟨b', off', s, rfl, _, hs, g0, g1⟩ := hb.cell hlt
      have hkey : fkey r = fkey s := by
        have := congrArg (fun l => l[k]?) hk
        simp only [List.getElem?_map, hr, hs, Option.map_some] at this
        exact Option.some.inj this
      have hkind : r.kind = s.kind := congrArg Prod.fst hkey
      have hbody : r.body = s.body := congrArg Prod.snd hkey
      have bx := (hx r (List.mem_of_getElem? hr))
      have by_ := (hy s (List.mem_of_getElem? hs))
      rw [← hbody] at by_
      rw [← hkind] at g0
      have hne : (r.kind != r.kind) = false := by simp
      have hrn : r.n ≤ 9223372036854775807 := Nat.le_trans bx.2.1 bx.2.2
      have BX := Lib.hid bx.1
      have BY := Lib.hid by_.1
      clear hr hs hkey hkind hbody bx by_
      go_wp2
      go_quiet ((go_at_call 35; exact quiet_add (sameBytes_yes _ _ _ _ _ r.body _ _ _ _ (BX.out.dn _) (BY.out.dn _) hrn)))
      go_wp2
      go_roundw
      case rel => exact ⟨k + 1, _, by omega, by go_num, rfl⟩
      case measure => simp [intOf]; omega
    · obtain rfl : k = n := by omega
      go_wp2
      go_ret
      exact ⟨rfl, q, rfl⟩

/-- Where each of the first k frames ends. -/
def endsL (fs : List Fm) (k : Nat) : List Int := (List.range k).map fun i => ((Fr.cat ((fs.map fkey).take (i + 1))).length : Int)
theorem endsL_succ (fs : List Fm) (k : Nat) : endsL fs (k + 1) = endsL fs k ++ [((Fr.cat ((fs.map fkey).take (k + 1))).length : Int)] := by simp [endsL, List.range_succ]
theorem endsL_len (fs : List Fm) (k : Nat) : (endsL fs k).length = k := by simp [endsL]
theorem endsL_get (fs : List Fm) (n k : Nat) (h : k < n) : (endsL fs n)[k]? = some ((Fr.cat ((fs.map fkey).take (k + 1))).length : Int) := by simp [endsL, List.getElem?_range, h]
theorem good_ok {fs : List Fm} {w : World} (hx : Bods w fs) (hg : ∀ r ∈ fs, goodF r) : ∀ f ∈ fs.map fkey, Fr.okKb f := by
  intro f hf
  obtain ⟨r, hr, rfl⟩ := List.mem_map.1 hf
  have := hg r hr
  refine ⟨this.1, this.2.1, ?_⟩
  show r.body.length ≤ 500
  rw [(hx r hr).1.len]; exact this.2.2

set_option maxHeartbeats 1600000 in
set_option maxRecDepth 100000 in
theorem rowF_any (A : Option Addr) (n c : Nat) (fs : List Fm) (w : World) (ht : Tabs w) (hf : RF w (· < w.heap.size) A n fs) (hx : Bods w fs) (hg : ∀ r ∈ fs, goodF r) (hn : n ≤ 20) :
    Calls Tryd.prog 28 #[.slice A n c] w fun e w' => ∃ vb ve, e = .returned (.tuple #[vb, ve]) ∧ w'.ownsRow w.heap.size 5 1 vb (Fr.cat (fs.map fkey)).length (bytes (Fr.cat (fs.map fkey))) ∧
      w'.ownsRow w.heap.size 3 1 ve n ((endsL fs n).map (Value.int .i64)) ∧ Below w.heap.size w w' := by
  have hok := good_ok hx hg
  have hfl := hf.len
  go_enter Tryd.func28, Tryd.ntmps28
  go_wp2
  go_loopw [4, 5, 6] (fun vb ve i wr => ∃ k : Nat, k ≤ n ∧ i = .int .i64 k ∧ wr.ownsRow w.heap.size 5 1 vb (Fr.cat ((fs.map fkey).take k)).length (bytes (Fr.cat ((fs.map fkey).take k))) ∧
      wr.ownsRow w.heap.size 3 1 ve k ((endsL fs k).map (Value.int .i64)) ∧ (vb.ownBlock = none ∨ vb.ownBlock ≠ ve.ownBlock) ∧ Below w.heap.size w wr) (fun _ _ i _ => n - (intOf i).toNat)
  case atStart => exact ⟨0, by omega, rfl, World.ownsRow_nil _ _ _ _, World.ownsRow_nil _ _ _ _, .inl rfl, Below.refl _ _⟩
  case round =>
    obtain ⟨k, hk, rfl, ob, oe, hap, hB⟩ := hrel
    by_cases hlt : k < n
    · obtain ⟨b, off, r, rfl, hbb, hr, h0, h1⟩ := (hf.below hB).cell hlt
      have hrm := List.mem_of_getElem? hr
      have hgr := hg r hrm
      obtain ⟨κ, hκ⟩ : ∃ κ : Nat, r.kind = (κ : Int) := ⟨r.kind.toNat, by have := hgr.1; omega⟩
      have hκ1 : 1 ≤ κ := by have := hgr.1; omega
      have hκ2 : κ ≤ 255 := by have := hgr.2.1; omega
      have hrb := ((hx r hrm).1.below hB).more (Q := (· < wr.heap.size)) fun i hi => Nat.lt_of_lt_of_le hi hB.size
      have htr := ht.below hB ht.size
      have hts : (fs.map fkey).take (k + 1) = (fs.map fkey).take k ++ [fkey r] := take_succ_get _ k _ (by rw [List.getElem?_map, hr]; rfl)
      obtain ⟨C, hC⟩ : ∃ C, C = Fr.cat ((fs.map fkey).take k) := ⟨_, rfl⟩
      have hC' : Fr.cat ((fs.map fkey).take (k + 1)) = C ++ Fr.bytesOf κ r.body := by rw [hts, Fr.cat_append, Fr.cat_one, hC]; show _ ++ Fr.bytesOf r.kind.toNat r.body = _; rw [hκ]; rfl
      have hbl : (Fr.bytesOf κ r.body).length = r.n + 9 := by rw [Fr.bytesOf_length, (hx r hrm).1.len]
      have hCl : C.length ≤ 10180 := by
        rw [hC]
        have := Fr.cat_len ((fs.map fkey).take k) fun f hf' => hok f (List.mem_of_mem_take hf')
        have h2 : ((fs.map fkey).take k).length ≤ 20 := by simp; omega
        omega
      have hrn := hgr.2.2
      rw [← hC] at ob
      have hsz := hB.size
      rw [hκ] at h0
      have HC' := Lib.hid hC'
      have HBL := Lib.hid hbl
      have hE := endsL_succ fs k
      rw [hC', List.length_append, hbl] at hE
      have HE := Lib.hid hE
      obtain ⟨M, hM⟩ : ∃ M, M = C.length := ⟨_, rfl⟩
      rw [← hM] at ob hCl
      have HM := Lib.hid hM
      clear hC hC' hbl hts hr hκ hgr hE hM
      go_wp2_with fail
      refine (put_ok κ r.A r.n r.c r.body wr htr hrb hκ1 hκ2 (by omega)).mono ?_
      rintro e w2 ⟨v2, rfl, o2, b2⟩
      obtain ⟨X, cx, rfl, hcx, hcx2, _⟩ := own_form o2
      have rx : RB w2 (· < w2.heap.size) X (r.n + 9) (Fr.bytesOf κ r.body) := (own_reads o2).more fun _ h => h.2
      have ob2 := own_below ob b2
      have oe2 := own_below oe b2
      have B2 := next_below hB b2
      have z2 := B2.size
      obtain ⟨B0, cb0, rfl, _, _, _⟩ := own_form ob2
      obtain ⟨E0, ce0, rfl, _, _, _⟩ := own_form oe2
      clear ob oe b2 hB o2 h0 h1 hrb htr
      go_upto_region 8 with (at_builtin; refine wpList_appN w2 rfl (.tmp 23) (.tmp 24) 23 rfl w.heap.size 5 (.int .u8 0) 1 1 Tryd.underlying23 infoU8 rfl (by decide) _ M _ ob2 rfl _ _ (r.n + 9) cx _ rx rfl (bytes_one _) (by omega) (by omega) z2 ?_; intro v3 w3 o3 g3 hb3 hv3)
      rw [← bytes_append, ← HC'.out] at o3
      have oe3 := oe2.kept g3 (by
        rcases hap with h | h
        · exact (Option.eq_none_or_eq_some (Value.slice E0 k ce0).ownBlock).imp id fun ⟨x, hx⟩ => by rw [hx, h]; exact fun e => by cases e
        · exact .inr h.symm)
      have B3 := B2.trans hb3
      have z3 := B3.size
      have lt3 := o3.lt
      have lte := oe2.lt
      obtain ⟨X3, c3, rfl, _, _, _⟩ := own_form o3
      clear ob2 oe2 hb3 rx g3 B2
      go_wp2_with (at_builtin; refine wpList_app1 w3 #[.int .i64 ((M : Int) + ((r.n : Int) + 9))] rfl _ _ 30 rfl w.heap.size 3 (.int .i64 0) 1 8 Tryd.underlying30 infoInt rfl (by decide) _ k _ oe3 rfl rfl rfl (one1 _ rfl) (by omega) (by omega) z3 ?_; intro g4 cap4 w4 o4 g4' hb4 hv4 _)
      have hap3 : (Value.slice X3 (M + (r.n + 9)) c3).ownBlock = none ∨ (Value.slice X3 (M + (r.n + 9)) c3).ownBlock ≠ (Value.slice E0 k ce0).ownBlock := by
        rcases hv3 with h | h
        · rw [h]; exact hap
        · exact .inr fun e => by have := lte _ (e.symm.trans h); omega
      have OB := o3.kept g4' hap3
      have el : (Fr.cat ((fs.map fkey).take (k + 1))).length = M + (r.n + 9) := by rw [HC'.out, List.length_append, HBL.out, ← HM.out]
      rw [← el] at OB
      have OE : w4.ownsRow w.heap.size 3 1 (.slice (some ⟨g4, 0, none⟩) (k + 1) cap4) (k + 1) ((endsL fs (k + 1)).map (Value.int .i64)) := by
        rw [HE.out, List.map_append, ← HM.out]
        have e : (#[Value.int .i64 ((M : Int) + ((r.n : Int) + 9))] : Array Value).toList = List.map (Value.int .i64) [((M + (r.n + 9) : Nat) : Int)] := by simp
        rw [← e]; exact o4
      have HAP : (Value.slice X3 (M + (r.n + 9)) c3).ownBlock = none ∨ (Value.slice X3 (M + (r.n + 9)) c3).ownBlock ≠ (Value.slice (some ⟨g4, 0, none⟩) (k + 1) cap4).ownBlock := by
        rcases hv4 with h | h
        · rcases hap3 with h2 | h2
          · exact .inl h2
          · exact .inr (by rw [h] at h2; exact h2)
        · exact .inr fun e => by
            have h3 := (lt3 g4 e).2
            omega
      have B4 := B3.trans hb4
      rw [el] at OB
      have EL := Lib.hid el
      clear o3 o4 g4' hb4 hv3 hv4 hap3 hap lt3 lte el oe3
      go_wp2
      go_roundw
      case rel => exact ⟨k + 1, by omega, by go_num, by rw [EL.out]; exact OB, OE, HAP, B4⟩
      case measure => simp [intOf]; omega
    · obtain rfl : k = n := by omega
      rw [List.take_of_length_le (by simp; omega)] at ob
      go_wp2
      go_ret2
      exact ⟨_, _, rfl, ob, oe, hB⟩
end Go.Proofs.YtinenekbdcbcnaaDoor
