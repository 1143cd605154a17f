/- Small laws about words told from ranges. -/
import Derived.Test.YtpamdmikdnoplaaSxL
namespace Go.Sx
theorem tmod_in {n m : Int} (hn : 0 ≤ n) (hm : 1 ≤ m) : 0 ≤ arith .rem .i64 n m ∧ arith .rem .i64 n m < m := by
  simp only [arith]
  rw [Int.tmod_eq_emod_of_nonneg hn]
  exact ⟨Int.emod_nonneg _ (by omega), Int.emod_lt_of_pos _ (by omega)⟩
theorem word_in {l g n : Int} (h0 : 0 ≤ l) (h1 : l ≤ g) (h2 : g ≤ 4294967295) (hn : 0 ≤ n) :
    l ≤ IntKind.u32.wrap (IntKind.i64.wrap (l + arith .rem .i64 n (g - l + 1))) ∧ IntKind.u32.wrap (IntKind.i64.wrap (l + arith .rem .i64 n (g - l + 1))) ≤ g := by
  obtain ⟨a, b⟩ := tmod_in (n := n) (m := g - l + 1) hn (by omega)
  generalize arith .rem .i64 n (g - l + 1) = r at *
  rw [wrap_fits (k := .i64) (x := l + r) (by simp [IntKind.min, IntKind.signed, IntKind.bits]; omega) (by simp [IntKind.max, IntKind.signed, IntKind.bits]; omega)]
  rw [wrap_fits (k := .u32) (x := l + r) (by simp [IntKind.min, IntKind.signed]; omega) (by simp [IntKind.max, IntKind.signed, IntKind.bits]; omega)]
  omega
theorem fits_u32 {x : Int} (h0 : 0 ≤ x) (h1 : x ≤ 4294967295) : IntKind.u32.wrap x = x := wrap_fits (by simp [IntKind.min, IntKind.signed]; omega) (by simp [IntKind.max, IntKind.signed, IntKind.bits]; omega)
theorem fits_u64 {x : Int} (h0 : 0 ≤ x) (h1 : x ≤ 18446744073709551615) : IntKind.u64.wrap x = x := wrap_fits (by simp [IntKind.min, IntKind.signed]; omega) (by simp [IntKind.max, IntKind.signed, IntKind.bits]; omega)
theorem fits_i64 {x : Int} (h0 : -9223372036854775808 ≤ x) (h1 : x ≤ 9223372036854775807) : IntKind.i64.wrap x = x := wrap_fits (by simp [IntKind.min, IntKind.signed, IntKind.bits]; omega) (by simp [IntKind.max, IntKind.signed, IntKind.bits]; omega)
end Go.Sx
