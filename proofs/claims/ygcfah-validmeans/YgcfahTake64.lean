/- Take where all 64 bits may be taken. -/
import Derived.Test.YgcfahBits
namespace Go.Proofs.Ygcfah
open Go.RowKit
theorem mask64_any (w : World) :
    Calls Fahg.prog 148 #[.int .u8 64] w fun e w' => e = .returned (.int .u64 18446744073709551615) ∧ w' = w := by
  go_enter Fahg.func148, Fahg.ntmps148
  go_wp2
  go_ret
  exact ⟨ret_int (by simp [wrap_u64]), rfl⟩
theorem and_full (x : Int) (hx : U64 x) : bits .and .u64 x 18446744073709551615 = x := by
  obtain ⟨h0, h1⟩ := hx
  rw [u64_and x 18446744073709551615 h0 h1 (by decide) (by decide)]
  obtain ⟨x, rfl⟩ := Int.eq_ofNat_of_zero_le h0
  have e : (18446744073709551615 : Int).toNat = 2 ^ 64 - 1 := by decide
  rw [e, Int.toNat_natCast, Nat.and_two_pow_sub_one_eq_mod]
  omega
theorem take64 (x : Int) (hx : U64 x) (w : World) :
    Calls Fahg.prog 99 #[.int .u64 x, .int .u8 0, .int .u8 64] w fun e w' => e = .returned (.int .u64 x) ∧ w' = w := by
  have hx' : Hid (U64 x) := hx
  clear hx
  go_enter Fahg.func99, Fahg.ntmps99
  go_wp2_with fail
  refine (fits_any _ _ (by decide) (by decide) (by decide) (by decide) _).mono ?_; rintro e w' ⟨rfl, rfl⟩
  go_wp2_with fail
  refine (mask64_any _).mono ?_; rintro e w' ⟨rfl, rfl⟩
  go_wp2_with fail
  go_ret
  exact ⟨ret_int (and_full x hx'.out), rfl⟩
end Go.Proofs.Ygcfah
