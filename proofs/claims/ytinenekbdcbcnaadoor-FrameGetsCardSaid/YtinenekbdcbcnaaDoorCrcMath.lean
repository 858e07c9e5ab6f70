/- Plain laws of the sum of layer 2: its step by the tables is eight halvings; it is linear, it loses nothing. No Go in sight. -/
namespace Go.Proofs.YtinenekbdcbcnaaDoor.CrcM
theorem getD_ge {α : Type} (l : List α) (i : Nat) (d : α) (h : l.length ≤ i) : l.getD i d = d := by
  rw [List.getD_eq_getElem?_getD, List.getElem?_eq_none h]; rfl
theorem getD_app1 {α : Type} (a b : List α) (i : Nat) (d : α) (h : i < a.length) : (a ++ b).getD i d = a.getD i d := by
  simp only [List.getD_eq_getElem?_getD]; rw [List.getElem?_append_left h]
theorem getD_app2 {α : Type} (a b : List α) (i : Nat) (d : α) (h : a.length ≤ i) : (a ++ b).getD i d = b.getD (i - a.length) d := by
  simp only [List.getD_eq_getElem?_getD]; rw [List.getElem?_append_right h]
def poly : BitVec 32 := 0xEDB88320#32
def bitStep (r : BitVec 32) (b : Bool) : BitVec 32 := if (r.getLsbD 0 != b) then (r >>> 1) ^^^ poly else r >>> 1
def L (r : BitVec 32) : BitVec 32 := (r >>> 1) ^^^ (if r.getLsbD 0 then poly else 0#32)
def Lk : Nat → BitVec 32 → BitVec 32
  | 0, r => r
  | n + 1, r => Lk n (L r)
theorem Lk_add (m n : Nat) (r : BitVec 32) : Lk (m + n) r = Lk n (Lk m r) := by
  induction m generalizing r with
  | zero => rw [Nat.zero_add]; rfl
  | succ m ih => rw [Nat.succ_add]; exact ih (L r)
theorem L_xor (a b : BitVec 32) : L (a ^^^ b) = L a ^^^ L b := by
  unfold L
  rw [BitVec.getLsbD_xor]
  apply BitVec.eq_of_getLsbD_eq
  intro i hi
  simp only [BitVec.getLsbD_xor, BitVec.getLsbD_ushiftRight]
  cases a.getLsbD 0 <;> cases b.getLsbD 0 <;> cases a.getLsbD (1 + i) <;> cases b.getLsbD (1 + i) <;> simp
theorem Lk_xor (n : Nat) (a b : BitVec 32) : Lk n (a ^^^ b) = Lk n a ^^^ Lk n b := by
  induction n generalizing a b with
  | zero => rfl
  | succ n ih => unfold Lk; rw [L_xor, ih]
theorem L_zero : L 0#32 = 0#32 := by decide
theorem Lk_zero (n : Nat) : Lk n 0#32 = 0#32 := by
  induction n with
  | zero => rfl
  | succ n ih => unfold Lk; rw [L_zero, ih]
theorem L_ne {r : BitVec 32} (h : r ≠ 0#32) : L r ≠ 0#32 := by
  intro h0
  apply h
  have h31 : (L r).getLsbD 31 = r.getLsbD 0 := by
    unfold L
    rw [BitVec.getLsbD_xor, BitVec.getLsbD_ushiftRight]
    cases h : r.getLsbD 0
    · simp
    · simp [poly]
  rw [h0] at h31
  have hz : r.getLsbD 0 = false := by simpa using h31.symm
  have hL : L r = r >>> 1 := by unfold L; rw [hz]; simp
  rw [hL] at h0
  apply BitVec.eq_of_getLsbD_eq
  intro i hi
  rcases i with _ | i
  · rw [hz]; simp
  · have : (r >>> 1).getLsbD i = false := by rw [h0]; simp
    rw [BitVec.getLsbD_ushiftRight, Nat.add_comm] at this
    rw [this]; simp
theorem Lk_ne {n : Nat} {r : BitVec 32} (h : r ≠ 0#32) : Lk n r ≠ 0#32 := by
  induction n generalizing r with
  | zero => exact h
  | succ n ih => exact ih (L_ne h)
theorem bitStep_eq (r : BitVec 32) (b : Bool) : bitStep r b = L (r ^^^ (if b then 1#32 else 0#32)) := by
  unfold bitStep L
  rw [BitVec.getLsbD_xor]
  apply BitVec.eq_of_getLsbD_eq
  intro i hi
  cases b <;> cases h : r.getLsbD 0 <;> simp [BitVec.getLsbD_ushiftRight, BitVec.getLsbD_xor] <;> omega
/-- the step of a byte, as a remainder's eight halvings. -/
def byteStep (r : BitVec 32) (x : BitVec 8) : BitVec 32 := Lk 8 (r ^^^ x.setWidth 32)
def fold (r : BitVec 32) (b : List (BitVec 8)) : BitVec 32 := b.foldl byteStep r
theorem fold_snoc (r : BitVec 32) (b : List (BitVec 8)) (x : BitVec 8) : fold r (b ++ [x]) = byteStep (fold r b) x := by
  unfold fold; rw [List.foldl_append]; rfl
def more (s : BitVec 32) (b : List (BitVec 8)) : BitVec 32 := ~~~ (fold (~~~ s) b)
def bitsOf (x : BitVec 8) : List Bool := (List.range 8).map fun k => x.getLsbD k

theorem L_shl {z : BitVec 32} (h : z.getLsbD 31 = false) : L (z <<< 1) = z := by
  have h0 : (z <<< 1).getLsbD 0 = false := by simp
  unfold L
  rw [h0]
  apply BitVec.eq_of_getLsbD_eq
  intro i hi
  simp only [BitVec.getLsbD_xor, BitVec.getLsbD_ushiftRight, BitVec.getLsbD_shiftLeft]
  by_cases h31 : i = 31
  · subst h31; have h' : z[31] = false := h; simp [h']
  · have : 1 + i < 32 := by omega
    simp [this]
/-- bits, the first one the least, as a word. -/
def wordOf : List Bool → BitVec 32
  | [] => 0#32
  | b :: l => (if b then 1#32 else 0#32) ^^^ (wordOf l <<< 1)
theorem wordOf_get (l : List Bool) (i : Nat) (hi : i < 32) : (wordOf l).getLsbD i = l.getD i false := by
  induction l generalizing i with
  | nil => simp [wordOf]
  | cons b l ih =>
    unfold wordOf
    rw [BitVec.getLsbD_xor, BitVec.getLsbD_shiftLeft]
    rcases i with _ | i
    · cases b <;> simp
    · have hs : (if b = true then 1#32 else 0#32).getLsbD (i + 1) = false := by cases b <;> simp
      rw [hs]
      simp [ih i (by omega), hi]
theorem wordOf_zero (l : List Bool) (hl : l.length ≤ 32) : wordOf l = 0#32 ↔ ∀ i, l.getD i false = false := by
  constructor
  · intro h i
    by_cases hi : i < 32
    · rw [← wordOf_get l i hi, h]; simp
    · rw [getD_ge _ _ _ (by omega)]
  · intro h
    apply BitVec.eq_of_getLsbD_eq
    intro i hi
    rw [wordOf_get l i hi, h i]; simp
theorem bits_fold (l : List Bool) (r : BitVec 32) (hl : l.length ≤ 32) : l.foldl bitStep r = Lk l.length (r ^^^ wordOf l) := by
  induction l generalizing r with
  | nil => simp [wordOf, Lk]
  | cons b l ih =>
    have hl' : l.length ≤ 31 := by simpa using hl
    have ht : (wordOf l).getLsbD 31 = false := by
      rw [wordOf_get l 31 (by omega), getD_ge _ _ _ (by omega)]
    rw [List.foldl_cons, ih _ (by omega), bitStep_eq, List.length_cons]
    show Lk l.length _ = Lk l.length (L _)
    rw [wordOf, ← BitVec.xor_assoc, L_xor (r ^^^ _), L_shl ht]
theorem bitsOf_word (x : BitVec 8) : wordOf (bitsOf x) = x.setWidth 32 := by
  apply BitVec.eq_of_getLsbD_eq
  intro i hi
  rw [wordOf_get _ _ hi]
  unfold bitsOf
  rw [BitVec.getLsbD_setWidth]
  by_cases h8 : i < 8
  · simp [List.getD, h8, hi]
  · have : x.getLsbD i = false := BitVec.getLsbD_of_ge _ _ (by omega)
    simp [List.getD, h8, this]
theorem bits_step (r : BitVec 32) (x : BitVec 8) : (bitsOf x).foldl bitStep r = byteStep r x := by
  rw [bits_fold _ _ (by simp [bitsOf]), bitsOf_word]
  simp [bitsOf, byteStep]
def allBits (b : List (BitVec 8)) : List Bool := b.flatMap bitsOf
theorem bits_all (b : List (BitVec 8)) (r : BitVec 32) : (allBits b).foldl bitStep r = fold r b := by
  induction b generalizing r with
  | nil => rfl
  | cons x b ih => simp only [allBits, List.flatMap_cons, List.foldl_append] at ih ⊢; rw [ih, bits_step]; rfl
theorem allBits_length (b : List (BitVec 8)) : (allBits b).length = 8 * b.length := by
  induction b with
  | nil => rfl
  | cons x b ih => simp only [allBits, List.flatMap_cons, List.length_append, List.length_cons] at ih ⊢; rw [ih]; simp [bitsOf]; omega
theorem allBits_get (b : List (BitVec 8)) (i : Nat) : (allBits b).getD i false = (b.getD (i / 8) 0#8).getLsbD (i % 8) := by
  induction b generalizing i with
  | nil => simp [allBits]
  | cons x b ih =>
    have he : allBits (x :: b) = bitsOf x ++ allBits b := rfl
    rw [he]
    by_cases h8 : i < 8
    · have h0 : i / 8 = 0 := by omega
      have h1 : i % 8 = i := by omega
      rw [h0, h1, getD_app1 _ _ _ _ (by simpa [bitsOf] using h8)]
      simp [bitsOf, List.getD, h8]
    · have h0 : i / 8 = (i - 8) / 8 + 1 := by omega
      have h1 : i % 8 = (i - 8) % 8 := by omega
      rw [h0, h1, getD_app2 _ _ _ _ (by simp [bitsOf]; omega)]
      simp only [bitsOf, List.length_map, List.length_range]
      rw [ih]; simp
theorem bitStep_xor (r s : BitVec 32) (a b : Bool) : bitStep (r ^^^ s) (a ^^ b) = bitStep r a ^^^ bitStep s b := by
  rw [bitStep_eq, bitStep_eq, bitStep_eq, ← L_xor]
  congr 1
  cases a <;> cases b <;> apply BitVec.eq_of_getLsbD_eq <;> intro i hi <;> simp [BitVec.getLsbD_xor] <;> cases r.getLsbD i <;> cases s.getLsbD i <;> simp
theorem fold_bits_xor (a b : List Bool) (r s : BitVec 32) (h : a.length = b.length) : (List.zipWith xor a b).foldl bitStep (r ^^^ s) = a.foldl bitStep r ^^^ b.foldl bitStep s := by
  induction a generalizing b r s with
  | nil => cases b with | nil => rfl | cons _ _ => simp at h
  | cons x a ih =>
    cases b with
    | nil => simp at h
    | cons y b =>
      simp only [List.zipWith_cons_cons, List.foldl_cons]
      rw [show (x.xor y) = (x ^^ y) from rfl, bitStep_xor]
      exact ih b _ _ (by simpa using h)
theorem byteStep_xor (r s : BitVec 32) (a b : BitVec 8) : byteStep (r ^^^ s) (a ^^^ b) = byteStep r a ^^^ byteStep s b := by
  unfold byteStep
  rw [← Lk_xor]
  congr 1
  apply BitVec.eq_of_getLsbD_eq
  intro i hi
  simp only [BitVec.getLsbD_xor, BitVec.getLsbD_setWidth]
  cases r.getLsbD i <;> cases s.getLsbD i <;> cases a.getLsbD i <;> cases b.getLsbD i <;> simp
theorem fold_xor (a b : List (BitVec 8)) (r s : BitVec 32) (h : a.length = b.length) : fold (r ^^^ s) (List.zipWith (· ^^^ ·) a b) = fold r a ^^^ fold s b := by
  induction a generalizing b r s with
  | nil => cases b with | nil => rfl | cons _ _ => simp at h
  | cons x a ih =>
    cases b with
    | nil => simp at h
    | cons y b =>
      simp only [fold, List.zipWith_cons_cons, List.foldl_cons] at ih ⊢
      rw [byteStep_xor]
      exact ih b _ _ (by simpa using h)
theorem more_append (s : BitVec 32) (a b : List (BitVec 8)) : more (more s a) b = more s (a ++ b) := by
  unfold more fold
  rw [BitVec.not_not, List.foldl_append]
theorem more_nil (s : BitVec 32) : more s [] = s := by unfold more fold; simp
theorem not_xor_not (a b : BitVec 32) : ~~~ a ^^^ ~~~ b = a ^^^ b := by
  apply BitVec.eq_of_getLsbD_eq
  intro i hi
  simp only [BitVec.getLsbD_xor, BitVec.getLsbD_not, hi, decide_true, Bool.true_and]
  cases a.getLsbD i <;> cases b.getLsbD i <;> rfl
theorem more_xor (s t : BitVec 32) (a b : List (BitVec 8)) : more s a ^^^ more t b = fold (~~~ s) a ^^^ fold (~~~ t) b := not_xor_not _ _
/-- what two sums going on differ by. -/
theorem more_diff (s t : BitVec 32) (a b : List (BitVec 8)) (h : a.length = b.length) : more s a ^^^ more t b = fold (s ^^^ t) (List.zipWith (· ^^^ ·) a b) := by
  rw [more_xor, ← fold_xor _ _ _ _ h, not_xor_not]
theorem zip_self (a : List (BitVec 8)) : List.zipWith (· ^^^ ·) a a = List.replicate a.length 0#8 := by
  induction a with
  | nil => rfl
  | cons x a ih => rw [List.zipWith_cons_cons, ih, BitVec.xor_self, List.length_cons, List.replicate_succ]
theorem fold_zeros (r : BitVec 32) (n : Nat) : fold r (List.replicate n 0#8) = Lk (8 * n) r := by
  induction n generalizing r with
  | zero => rfl
  | succ n ih =>
    rw [List.replicate_succ]
    show fold (byteStep r 0#8) _ = _
    rw [ih, show 8 * (n + 1) = 8 + 8 * n from by omega, Lk_add]
    simp [byteStep]
/-- THE STEP BY THE TABLES. -/
def lower : List (BitVec 32) := [0x00000000, 0x77073096, 0xEE0E612C, 0x990951BA, 0x076DC419, 0x706AF48F, 0xE963A535, 0x9E6495A3, 0x0EDB8832, 0x79DCB8A4, 0xE0D5E91E, 0x97D2D988, 0x09B64C2B, 0x7EB17CBD, 0xE7B82D07, 0x90BF1D91]
def upper : List (BitVec 32) := [0x00000000, 0x1DB71064, 0x3B6E20C8, 0x26D930AC, 0x76DC4190, 0x6B6B51F4, 0x4DB26158, 0x5005713C, 0xEDB88320, 0xF00F9344, 0xD6D6A3E8, 0xCB61B38C, 0x9B64C2B0, 0x86D3D2D4, 0xA00AE278, 0xBDBDF21C]
theorem tab_byte : ∀ v : Nat, v < 256 → Lk 8 (BitVec.ofNat 32 v) = lower.getD (v % 16) 0 ^^^ upper.getD (v / 16) 0 := by decide +kernel
theorem Lk_shl : ∀ (k : Nat) (z : BitVec 32), (∀ i, 32 ≤ i + k → z.getLsbD i = false) → Lk k (z <<< k) = z := by
  intro k
  induction k with
  | zero => intro z _; simp [Lk]
  | succ k ih =>
    intro z hz
    unfold Lk
    rw [BitVec.shiftLeft_add, L_shl]
    · exact ih z fun i hi => hz i (by omega)
    · rw [BitVec.getLsbD_shiftLeft]
      by_cases hk : 31 < k
      · simp [hk]
      · rw [hz (31 - k) (by omega)]; simp
theorem tab_step (r : BitVec 32) (x : BitVec 8) :
    byteStep r x = (r >>> 8) ^^^ lower.getD ((r.setWidth 8 ^^^ x).toNat % 16) 0 ^^^ upper.getD ((r.setWidth 8 ^^^ x).toNat / 16) 0 := by
  have hv := tab_byte (r.setWidth 8 ^^^ x).toNat (r.setWidth 8 ^^^ x).isLt
  rw [BitVec.xor_assoc, ← hv]
  have hq : r ^^^ x.setWidth 32 = ((r >>> 8) <<< 8) ^^^ BitVec.ofNat 32 (r.setWidth 8 ^^^ x).toNat := by
    rw [BitVec.ofNat_toNat]
    apply BitVec.eq_of_getLsbD_eq
    intro i hi
    simp only [BitVec.getLsbD_xor, BitVec.getLsbD_setWidth, BitVec.getLsbD_shiftLeft, BitVec.getLsbD_ushiftRight]
    by_cases h8 : i < 8
    · simp [h8, hi]
    · have : x.getLsbD i = false := BitVec.getLsbD_of_ge _ _ (by omega)
      simp [h8, hi, this, show 8 + (i - 8) = i from by omega]
  unfold byteStep
  rw [hq, Lk_xor, Lk_shl]
  intro i hi
  rw [BitVec.getLsbD_ushiftRight]
  exact BitVec.getLsbD_of_ge _ _ (by omega)

theorem xor_ne {a b : BitVec 32} : a ^^^ b = 0#32 ↔ a = b := by
  constructor
  · intro h
    have := congrArg (· ^^^ b) h
    simpa [BitVec.xor_assoc] using this
  · rintro rfl; exact BitVec.xor_self
theorem back_law (s t : BitVec 32) (a : List (BitVec 8)) : (s = t) ↔ (more s a = more t a) := by
  rw [← xor_ne (a := more s a), more_diff _ _ _ _ rfl, zip_self, fold_zeros]
  constructor
  · rintro rfl; rw [BitVec.xor_self, Lk_zero]
  · intro h
    by_cases he : s = t
    · exact he
    · exact absurd h (Lk_ne fun h0 => he (xor_ne.1 h0))
theorem back_diff (s t : BitVec 32) (a b : List (BitVec 8)) (h : a.length = b.length) : more s a ^^^ more t a = more s b ^^^ more t b := by
  rw [more_diff _ _ _ _ rfl, more_diff _ _ _ _ rfl, zip_self, zip_self, h]
/-- bytes with the bits of others turned, as many as there are. -/
def mixL : List (BitVec 8) → List (BitVec 8) → List (BitVec 8)
  | [], _ => []
  | b :: l, [] => b :: l
  | b :: l, y :: m => (b ^^^ y) :: mixL l m
theorem mixL_length (b m : List (BitVec 8)) : (mixL b m).length = b.length := by
  induction b generalizing m with
  | nil => rfl
  | cons x b ih => cases m with | nil => rfl | cons y m => simp [mixL, ih]
theorem mixL_get (b m : List (BitVec 8)) (k : Nat) (h : k < b.length) : (mixL b m)[k]? = some (if k < m.length then b.getD k 0 ^^^ m.getD k 0 else b.getD k 0) := by
  induction b generalizing m k with
  | nil => simp at h
  | cons x b ih =>
    cases m with
    | nil => simp [mixL, List.getD, List.getElem?_eq_getElem h]
    | cons y m =>
      rcases k with _ | k
      · simp [mixL]
      · simp only [mixL, List.getElem?_cons_succ]
        rw [ih m k (by simpa using h)]
        simp
theorem zip_mix (b m : List (BitVec 8)) : List.zipWith (· ^^^ ·) b (mixL b m) = mixL (List.replicate b.length 0#8) m := by
  induction b generalizing m with
  | nil => rfl
  | cons x b ih =>
    cases m with
    | nil => simp only [mixL, List.length_cons, List.replicate_succ, List.zipWith_cons_cons, BitVec.xor_self]; rw [zip_self]
    | cons y m =>
      simp only [mixL, List.length_cons, List.replicate_succ, List.zipWith_cons_cons]
      rw [ih, ← BitVec.xor_assoc, BitVec.xor_self]
theorem zip_mix2 (b m l : List (BitVec 8)) : List.zipWith (· ^^^ ·) b (mixL (mixL b m) l) = mixL (mixL (List.replicate b.length 0#8) m) l := by
  induction b generalizing m l with
  | nil => rfl
  | cons x b ih =>
    have e1 : ∀ y : BitVec 8, x ^^^ (x ^^^ y) = 0#8 ^^^ y := fun y => by rw [← BitVec.xor_assoc, BitVec.xor_self]
    cases m with
    | nil =>
      have := zip_mix (x :: b) l
      simpa [mixL, List.replicate_succ] using this
    | cons y m =>
      cases l with
      | nil =>
        have := zip_mix (x :: b) (y :: m)
        simpa [mixL, List.replicate_succ] using this
      | cons z l =>
        simp only [mixL, List.length_cons, List.replicate_succ, List.zipWith_cons_cons]
        rw [ih, BitVec.xor_assoc, e1, BitVec.xor_assoc]
theorem zip_mixes (n : Nat) (m l : List (BitVec 8)) : List.zipWith (· ^^^ ·) (mixL (List.replicate n 0#8) m) (mixL (List.replicate n 0#8) l) = mixL (mixL (List.replicate n 0#8) m) l := by
  induction n generalizing m l with
  | zero => rfl
  | succ n ih =>
    cases m with
    | nil =>
      cases l with
      | nil => simp only [List.replicate_succ, mixL, List.zipWith_cons_cons, BitVec.xor_self]; rw [zip_self]; simp
      | cons z l =>
        have := ih [] l
        have e : ∀ k, mixL (List.replicate k 0#8) [] = List.replicate k 0#8 := fun k => by cases k <;> rfl
        rw [e] at this
        simp only [List.replicate_succ, mixL, List.zipWith_cons_cons]
        rw [this]; simp
    | cons y m =>
      cases l with
      | nil =>
        have := ih m []
        have e : ∀ k, mixL (List.replicate k 0#8) [] = List.replicate k 0#8 := fun k => by cases k <;> rfl
        have e' : ∀ k : List (BitVec 8), mixL k [] = k := fun k => by cases k <;> rfl
        rw [e, e'] at this
        simp only [List.replicate_succ, mixL, List.zipWith_cons_cons]
        rw [this]; simp
      | cons z l => simp only [List.replicate_succ, mixL, List.zipWith_cons_cons]; rw [ih]; simp
theorem line_d (s : BitVec 32) (b m : List (BitVec 8)) : more s b ^^^ more s (mixL b m) = fold 0#32 (mixL (List.replicate b.length 0#8) m) := by
  rw [more_diff _ _ _ _ (mixL_length b m).symm, BitVec.xor_self, zip_mix]
theorem line_law (s : BitVec 32) (b m l : List (BitVec 8)) :
    (more s b ^^^ more s (mixL b m)) ^^^ (more s b ^^^ more s (mixL b l)) = more s b ^^^ more s (mixL (mixL b m) l) := by
  rw [line_d, line_d, more_diff _ _ _ (mixL (mixL b m) l) (by rw [mixL_length, mixL_length]), BitVec.xor_self, zip_mix2, ← zip_mixes, fold_xor _ _ _ _ (by rw [mixL_length, mixL_length]) |>.symm.trans (by rw [BitVec.xor_self])]
theorem line_zero (s : BitVec 32) (b m : List (BitVec 8)) :
    more s b ^^^ more s (mixL b m) = more 0#32 (List.replicate b.length 0#8) ^^^ more 0#32 (mixL (List.replicate b.length 0#8) m) := by
  rw [line_d, line_d]; simp
theorem fold_zip_bits (a b : List (BitVec 8)) (r s : BitVec 32) (h : a.length = b.length) : fold r a ^^^ fold s b = (List.zipWith xor (allBits a) (allBits b)).foldl bitStep (r ^^^ s) := by
  rw [fold_bits_xor _ _ _ _ (by rw [allBits_length, allBits_length, h]), bits_all, bits_all]
theorem fold_false (n : Nat) (r : BitVec 32) : (List.replicate n false).foldl bitStep r = Lk n r := by
  induction n generalizing r with
  | zero => rfl
  | succ n ih => rw [List.replicate_succ, List.foldl_cons, ih, bitStep_eq]; simp [Lk]
/-- BITS WITHIN 32 SIDE BY SIDE. -/
theorem bits_law (b x : List (BitVec 8)) (fr : Nat) (which : BitVec 32) (hlen : x.length = b.length) (hfr : fr < 8 * b.length)
    (hx : ∀ j, j < 8 * b.length → (allBits x).getD j false = ((allBits b).getD j false ^^ (decide (fr ≤ j ∧ j < fr + 32) && which.getLsbD (j - fr)))) :
    more 0#32 x = more 0#32 b ↔ ∀ i, i < 32 → fr + i < 8 * b.length → which.getLsbD i = false := by
  have hD : List.zipWith xor (allBits x) (allBits b) = List.replicate fr false ++ ((List.range (min 32 (8 * b.length - fr))).map (which.getLsbD ·) ++ List.replicate (8 * b.length - fr - min 32 (8 * b.length - fr)) false) := by
    apply List.ext_getElem?
    intro j
    by_cases hj : j < 8 * b.length
    · have h1 : (allBits x)[j]? = some ((allBits x).getD j false) := by
        rw [List.getD_eq_getElem?_getD, List.getElem?_eq_getElem (by rw [allBits_length, hlen]; exact hj)]; rfl
      have h2 : (allBits b)[j]? = some ((allBits b).getD j false) := by
        rw [List.getD_eq_getElem?_getD, List.getElem?_eq_getElem (by rw [allBits_length]; exact hj)]; rfl
      rw [List.getElem?_zipWith, h1, h2, hx j hj]
      by_cases hf : j < fr
      · rw [List.getElem?_append_left (by simpa using hf)]
        simp [hf, show ¬ fr ≤ j from by omega]
      · rw [List.getElem?_append_right (by simp; omega), List.length_replicate]
        by_cases hk : j - fr < min 32 (8 * b.length - fr)
        · rw [List.getElem?_append_left (by simpa using hk)]
          simp [hk, show fr ≤ j ∧ j < fr + 32 from by omega, show (j - fr < 32 ∧ j - fr < 8 * b.length - fr) from by omega]
          cases (allBits b)[j]?.getD false <;> simp
        · rw [List.getElem?_append_right (by simp; omega)]
          simp [List.getElem?_replicate, show ¬ (fr ≤ j ∧ j < fr + 32) from by omega]
          omega
    · rw [List.getElem?_eq_none (by simp [allBits_length]; omega), List.getElem?_eq_none (by simp; omega)]
  rw [← xor_ne, more_xor, fold_zip_bits _ _ _ _ hlen, BitVec.xor_self, hD, List.foldl_append, List.foldl_append, fold_false, fold_false, Lk_zero, bits_fold _ _ (by simp; omega)]
  rw [BitVec.zero_xor]
  have hz : wordOf ((List.range (min 32 (8 * b.length - fr))).map (which.getLsbD ·)) = 0#32 ↔ ∀ i, i < 32 → fr + i < 8 * b.length → which.getLsbD i = false := by
    rw [wordOf_zero _ (by simp; omega)]
    constructor
    · intro h i hi hi2
      have := h i
      simpa [List.getD, List.getElem?_range, show i < min 32 (8 * b.length - fr) from by omega] using this
    · intro h i
      by_cases hi : i < min 32 (8 * b.length - fr)
      · simpa [List.getD, List.getElem?_range, hi] using h i (by omega) (by omega)
      · rw [getD_ge _ _ _ (by simp; omega)]
  rw [← hz]
  constructor
  · intro h
    by_cases h0 : wordOf ((List.range (min 32 (8 * b.length - fr))).map (which.getLsbD ·)) = 0#32
    · exact h0
    · exact absurd h (Lk_ne (Lk_ne h0))
  · intro h; rw [h, Lk_zero, Lk_zero]
end Go.Proofs.YtinenekbdcbcnaaDoor.CrcM
