/- The contract of Pick. -/
import Derived.Test.YtcidmlpjobdakaaWords
import Derived.Test.YtcidmlpjobdakaaRows
import Derived.WalkSpells
import Derived.WalkLawsBesides
import Derived.Lib.Hide
namespace Go.Proofs.Ytcidmlpjobdakaa
set_option linter.unusedSimpArgs false
set_option linter.unusedVariables false
set_option linter.unnecessarySimpa false
open Go.RowKit
theorem pick_pos (k n : Int) (w : World) (hn : 1 ≤ n) (hn2 : n ≤ 9223372036854775807) (hk1 : -9223372036854775808 ≤ k) (hk2 : k ≤ 9223372036854775807) :
    Calls Try.prog 23 #[.int .i64 k, .int .i64 n] w fun e w' => e = .returned (.int .i64 (k % n)) ∧ w = w' := by
  by_cases h0 : 0 ≤ k
  · have hm1 := Int.emod_nonneg k (show n ≠ 0 by omega)
    have hm2 := Int.emod_lt_of_pos k (show 0 < n by omega)
    go_enter Try.func23, Try.ntmps23
    go_wp2
    go_ret
    exact ⟨rfl, rfl⟩
  · have hr : k.tmod n = - ((-k) % n) := by
      have : k = - (-k) := by omega
      rw [this, Int.neg_tmod, Int.neg_neg, Int.tmod_eq_emod_of_nonneg (by omega)]
    have hm1 := Int.emod_nonneg (-k) (show n ≠ 0 by omega)
    have hm2 := Int.emod_lt_of_pos (-k) (show 0 < n by omega)
    by_cases hz : (-k) % n = 0
    · have e : k % n = 0 := by
        have := Int.dvd_of_emod_eq_zero hz
        exact Int.emod_eq_zero_of_dvd (Int.dvd_neg.1 this)
      have e0 : k.tmod n = 0 := by rw [hr, hz]; rfl
      have HE := Lib.hid e
      clear e hr hz hm1 hm2
      go_enter Try.func23, Try.ntmps23
      go_wp2
      go_ret
      exact ⟨by rw [HE.out]; rfl, rfl⟩
    · obtain ⟨r, hR⟩ : ∃ r, r = k.tmod n := ⟨_, rfl⟩
      have e : k % n = r + n := by
        rw [hR, hr]
        have h2 := Int.emod_add_mul_ediv (-k) n
        have h4 : (n - (-k) % n) % n = n - (-k) % n := Int.emod_eq_of_lt (by omega) (by omega)
        have h3 : k = (n - (-k) % n) + n * (-(-k / n) - 1) := by rw [Int.mul_sub, Int.mul_neg, Int.mul_one]; omega
        have h1 : k % n = n - (-k) % n := by
          have h5 := congrArg (· % n) h3
          simp only [Int.add_mul_emod_self_left] at h5
          rw [h5, h4]
        omega
      have hr1 : r < 0 := by omega
      have hr2 : -n < r := by omega
      have e0 : k.tmod n = r := hR.symm
      have HE := Lib.hid e
      clear e hr hz hm1 hm2 hR
      go_enter Try.func23, Try.ntmps23
      go_wp2
      go_ret
      exact ⟨by rw [HE.out]; rfl, rfl⟩
theorem pick_low (k n : Int) (w : World) (hn : n < 1) : Calls Try.prog 23 #[.int .i64 k, .int .i64 n] w fun e w' => e = .returned (.int .i64 0) ∧ w = w' := by
  go_enter Try.func23, Try.ntmps23
  go_wp2
  go_ret
  exact ⟨rfl, rfl⟩
end Go.Proofs.Ytcidmlpjobdakaa
