/- Small laws for what an instruction makes. -/
import Derived.Test.YtpamdmikdnoplaaCkPc
import Derived.Test.YtpamdmikdnoplaaCkSpec
import Derived.Test.YtpamdmikdnoplaaCkOnes
namespace Go.Proofs.Ytpamdmikdnoplaa
open Go.Sx Go.RowKit Go.Ck
set_option linter.unusedVariables false
theorem andIte (a b : Prop) : ((a → b) ∧ (¬ a → (0 : Int) ≠ 0)) ↔ (a ∧ b) := by
  constructor
  · rintro ⟨h1, h2⟩
    rcases Classical.em a with h | h
    · exact ⟨h, h1 h⟩
    · exact absurd rfl (h2 h)
  · rintro ⟨h1, h2⟩; exact ⟨fun _ => h2, fun h => absurd h1 h⟩
theorem orIte (a b : Prop) : ((a → (1 : Int) ≠ 0) ∧ (¬ a → b)) ↔ (a ∨ b) := by
  constructor
  · rintro ⟨h1, h2⟩
    rcases Classical.em a with h | h
    · exact .inl h
    · exact .inr (h2 h)
  · rintro (h | h)
    · exact ⟨fun _ => by decide, fun h' => absurd h h'⟩
    · exact ⟨fun _ => by decide, fun _ => h⟩
theorem den_may' (a b c d e : Int) : ((clampF 300 (CI 300 [a, b, c, d, e]) != 0) = true) ↔ MayP a b c d e := by
  show ((clampF 300 (bit (MayP a b c d e)) != 0) = true) ↔ _
  generalize MayP a b c d e = p
  have e : clampF 300 (bit p) = bit p := by
    have := bit_01 p
    unfold clampF
    rw [if_neg (by decide), if_neg (by decide), if_pos (by decide)]
    split <;> omega
  rw [e, bne_iff_ne, bit_ne]
/-- All of it: an instruction, a context's size, ranges that may not be. -/
noncomputable def behF (op dst src off imm ctx : Int) (R : Prop) (come : Bool) (d q : Rng) (s0 : Int) : Beh :=
  @ite _ (ctx < 0 ∨ 256 < ctx) (Classical.propDecidable _) ⟨2, none, none⟩ (@ite _ (¬ MayP op dst src off imm) (Classical.propDecidable _) ⟨2, none, none⟩ (@ite _ (¬ R) (Classical.propDecidable _) ⟨2, none, none⟩ (if come = false then ⟨0, none, none⟩ else beh op dst src off imm ctx d q s0)))
noncomputable def behG (op dst src off imm ctx : Int) (come : Bool) (d q : Rng) (s0 : Int) : Beh := if come = false then ⟨0, none, none⟩ else beh op dst src off imm ctx d q s0
theorem mul_cond2 {d s : Int} (h0 : 0 ≤ d) (h1 : d ≤ 4294967295) : (0 < d ∧ arith .quo .i64 4294967295 d < s) ↔ 4294967295 < d * s := by
  by_cases h : 0 < d
  · have e : arith .quo .i64 4294967295 d = 4294967295 / d := by
      simp only [arith]
      rw [Int.tdiv_eq_ediv_of_nonneg (by omega)]
      have x := Int.ediv_nonneg (a := 4294967295) (b := d) (by omega) (by omega)
      have y := Int.ediv_le_self (a := 4294967295) d (by omega)
      exact fits_i64 (by omega) (by omega)
    rw [e]
    constructor
    · rintro ⟨_, h2⟩; rw [Int.mul_comm]; exact (Int.ediv_lt_iff_lt_mul h).1 h2
    · intro h2; exact ⟨h, (Int.ediv_lt_iff_lt_mul h).2 (by rw [Int.mul_comm]; exact h2)⟩
  · obtain rfl : d = 0 := by omega
    simp
theorem wrap2i {x : Int} (h0 : 0 ≤ x) (h1 : x ≤ 4294967295) : IntKind.u32.wrap (IntKind.i64.wrap x) = x := by rw [fits_i64 (by omega) (by omega), fits_u32 h0 h1]
theorem ops (op : Int) (h1 : 1 ≤ op) (h2 : op ≤ 24) : op = 1 ∨ op = 2 ∨ op = 3 ∨ op = 4 ∨ op = 5 ∨ op = 6 ∨ op = 7 ∨ op = 8 ∨ op = 9 ∨ op = 10 ∨ op = 11 ∨ op = 12 ∨ op = 13 ∨ op = 14 ∨ op = 15 ∨ op = 16 ∨ op = 17 ∨ op = 18 ∨ op = 19 ∨ op = 20 ∨ op = 21 ∨ op = 22 ∨ op = 23 ∨ op = 24 := by omega
theorem cif_mn (a b : Int) : cif (b < a) b a = mn a b := by
  unfold mn
  rcases cif_or (b < a) b a with ⟨h, e⟩ | ⟨h, e⟩
  · rw [e, if_pos h]
  · rw [e, if_neg h]
theorem cif_mx (a b : Int) : cif (a < b) b a = mx a b := by
  unfold mx
  rcases cif_or (a < b) b a with ⟨h, e⟩ | ⟨h, e⟩
  · rw [e, if_pos h]
  · rw [e, if_neg h]
theorem mn_or (a b : Int) : mn a b = a ∧ a ≤ b ∨ mn a b = b ∧ b < a := by unfold mn; split <;> omega
theorem mx_or (a b : Int) : mx a b = a ∧ b ≤ a ∨ mx a b = b ∧ a < b := by unfold mx; split <;> omega
theorem wrap2 {x : Int} (h0 : 0 ≤ x) (h1 : x ≤ 4294967295) : IntKind.u32.wrap (IntKind.u64.wrap x) = x := by rw [fits_u64 h0 (by omega), fits_u32 h0 h1]
theorem mnw {a b : Int} (h0 : 1 ≤ a) (h1 : a ≤ 4294967295) (h2 : 0 ≤ b) (h3 : b ≤ 4294967295) : IntKind.u32.wrap (cif (IntKind.u64.wrap (a - 1) < b) (IntKind.u64.wrap (a - 1)) b) = mn b (a - 1) := by
  rw [fits_u64 (x := a - 1) (by omega) (by omega), cif_mn]
  have := mn_or b (a - 1)
  exact fits_u32 (by omega) (by omega)
theorem mxw {a b : Int} (h0 : 0 ≤ a) (h1 : a < 4294967295) (h2 : 0 ≤ b) (h3 : b ≤ 4294967295) : IntKind.u32.wrap (cif (b < a + 1) (a + 1) b) = mx b (a + 1) := by
  rw [cif_mx]
  have := mx_or b (a + 1)
  exact fits_u32 (by omega) (by omega)
theorem ones_le {x : Int} (h0 : 0 ≤ x) (h1 : x ≤ 4294967295) : x ≤ ones x ∧ ones x ≤ 4294967295 := by
  obtain ⟨k, k1, k2, k3, k4⟩ := ones_word h0 h1
  rw [ones_bits h0 h1] at k4
  have hb := ones_bits h0 h1
  have h3 : 0 ≤ ones x ∧ ones x ≤ 18446744073709551615 := by
    rw [← hb]
    have := wrap_in .u64 (arith .shl .u64 1 (Lib.bitLen x.toNat : Int) - 1)
    simp [IntKind.min, IntKind.max, IntKind.signed, IntKind.bits] at this
    omega
  rw [k3] at hb
  have hp : (2 : Int) ^ k ≤ 2 ^ 32 := by
    have := Nat.pow_le_pow_right (show 0 < 2 by omega) k1
    exact_mod_cast this
  have hq : (1 : Int) ≤ 2 ^ k := by
    have := Nat.one_le_two_pow (n := k)
    exact_mod_cast this
  have e : arith .shl .u64 1 (k : Int) = 2 ^ k := by
    simp only [arith, Int.toNat_natCast, IntKind.bits, Int.one_mul]
    rw [Nat.min_eq_left (by omega)]
    exact fits_u64 (by omega) (by omega)
  rw [e] at hb
  have hx : (x.toNat : Int) < 2 ^ k := by exact_mod_cast k2
  generalize (2 : Int) ^ k = p at *
  rw [fits_u64 (by omega) (by omega)] at hb
  omega
theorem ones_mx {a b : Int} (h0 : 0 ≤ a) (h1 : a ≤ 4294967295) (h2 : 0 ≤ b) (h3 : b ≤ 4294967295) :
    IntKind.u32.wrap (clampF 71 (CI 71 [if IntKind.u64.wrap a < IntKind.u64.wrap b then IntKind.u64.wrap b else IntKind.u64.wrap a])) = ones (mx a b) := by
  rw [fits_u64 h0 (by omega), fits_u64 h2 (by omega)]
  show IntKind.u32.wrap (ones (if a < b then b else a)) = ones (mx a b)
  have e : (if a < b then b else a) = mx a b := rfl
  rw [e]
  have hm := mx_or a b
  have := ones_le (x := mx a b) (by omega) (by omega)
  exact fits_u32 (by omega) (by omega)
theorem ones_mxi {a b : Int} (h0 : 0 ≤ a) (h1 : a ≤ 4294967295) (h2 : 0 ≤ b) (h3 : b ≤ 4294967295) :
    IntKind.u32.wrap (clampF 71 (CI 71 [if IntKind.i64.wrap a < IntKind.i64.wrap b then IntKind.i64.wrap b else IntKind.i64.wrap a])) = ones (mx a b) := by
  rw [fits_i64 (x := a) (by omega) (by omega), fits_i64 (x := b) (by omega) (by omega)]
  show IntKind.u32.wrap (ones (if a < b then b else a)) = ones (mx a b)
  have e : (if a < b then b else a) = mx a b := rfl
  rw [e]
  have hm := mx_or a b
  have := ones_le (x := mx a b) (by omega) (by omega)
  exact fits_u32 (by omega) (by omega)
theorem mnwi {a b : Int} (h0 : 1 ≤ a) (h1 : a ≤ 4294967295) (h2 : 0 ≤ b) (h3 : b ≤ 4294967295) : IntKind.u32.wrap (cif (a - 1 < b) (a - 1) b) = mn b (a - 1) := by
  rw [cif_mn]
  have := mn_or b (a - 1)
  exact fits_u32 (by omega) (by omega)
theorem quo_divi {a b : Int} (h0 : 0 ≤ a) (h1 : a ≤ 4294967295) (h2 : 0 < b) : IntKind.u32.wrap (arith .quo .i64 a b) = a / b := by
  simp only [arith]
  rw [Int.tdiv_eq_ediv_of_nonneg h0]
  have x := Int.ediv_nonneg (a := a) (b := b) h0 (by omega)
  have y := Int.ediv_le_self (a := a) b h0
  rw [fits_i64 (by omega) (by omega), fits_u32 x (by omega)]
theorem pow_le {i : Int} (h1 : i ≤ 31) : (1 : Int) ≤ 2 ^ i.toNat ∧ (2 : Int) ^ i.toNat ≤ 2147483648 := by
  have hn : i.toNat ≤ 31 := by omega
  have a := Nat.one_le_two_pow (n := i.toNat)
  have b : 2 ^ i.toNat ≤ 2147483648 := Nat.le_trans (Nat.pow_le_pow_right (show 0 < 2 by omega) hn) (by decide)
  generalize i.toNat = n at *
  have e : (2 : Int) ^ n = ((2 ^ n : Nat) : Int) := by simp
  rw [e]
  generalize 2 ^ n = p at *
  omega
theorem shl_mul {x i : Int} (h0 : 0 ≤ x) (h1 : x ≤ 4294967295) (h3 : i ≤ 31) : arith .shl .u64 x i = x * 2 ^ i.toNat := by
  simp only [arith, IntKind.bits]
  rw [Nat.min_eq_left (by omega)]
  obtain ⟨p1, p2⟩ := pow_le h3
  have m1 : 0 ≤ x * 2 ^ i.toNat := Int.mul_nonneg h0 (by omega)
  have m2 : x * 2 ^ i.toNat ≤ 4294967295 * 2147483648 := Int.mul_le_mul h1 p2 (by omega) (by omega)
  exact fits_u64 m1 (by omega)
theorem shr_div {x i : Int} (h0 : 0 ≤ x) (h1 : x ≤ 4294967295) (h3 : i ≤ 31) : IntKind.u32.wrap (arith .shr .u64 x i) = x / 2 ^ i.toNat := by
  simp only [arith, IntKind.bits]
  rw [Nat.min_eq_left (by omega)]
  obtain ⟨p1, p2⟩ := pow_le h3
  rw [Int.fdiv_eq_ediv_of_nonneg _ (by omega)]
  have a := Int.ediv_nonneg (a := x) (b := 2 ^ i.toNat) h0 (by omega)
  have b := Int.ediv_le_self (a := x) (2 ^ i.toNat) h0
  exact fits_u32 a (by omega)
theorem quo_div {a b : Int} (h0 : 0 ≤ a) (h1 : a ≤ 4294967295) (h2 : 0 < b) : IntKind.u32.wrap (arith .quo .u64 a b) = a / b := by
  simp only [arith]
  rw [Int.tdiv_eq_ediv_of_nonneg h0]
  have x := Int.ediv_nonneg (a := a) (b := b) h0 (by omega)
  have y := Int.ediv_le_self (a := a) b h0
  rw [fits_u64 x (by omega), fits_u32 x (by omega)]
theorem mul_facts {a b c d : Int} (h0 : 0 ≤ a) (h1 : a ≤ b) (h2 : 0 ≤ c) (h3 : c ≤ d) : 0 ≤ a * c ∧ a * c ≤ b * d := ⟨Int.mul_nonneg h0 h2, Int.mul_le_mul h1 h3 h2 (by omega)⟩
/-- What is known of a register. -/
def rS (ρ : Env) (x : Int) : Int := selI [x, if ρ.b 7 = true then 1 else 0, if ρ.b 10 = true then 1 else 0, if ρ.b 13 = true then 1 else 0, if ρ.b 16 = true then 1 else 0, if ρ.b 19 = true then 1 else 0, if ρ.b 22 = true then 1 else 0, if ρ.b 25 = true then 1 else 0, if ρ.b 28 = true then 1 else 0, if ρ.b 31 = true then 1 else 0, if ρ.b 34 = true then 1 else 0]
def rL (ρ : Env) (x : Int) : Int := selI [x, ρ.i 8, ρ.i 11, ρ.i 14, ρ.i 17, ρ.i 20, ρ.i 23, ρ.i 26, ρ.i 29, ρ.i 32, ρ.i 35]
def rG (ρ : Env) (x : Int) : Int := selI [x, ρ.i 9, ρ.i 12, ρ.i 15, ρ.i 18, ρ.i 21, ρ.i 24, ρ.i 27, ρ.i 30, ρ.i 33, ρ.i 36]
theorem eS (ρ : Env) (x : Int) : selI [x, if ρ.b 7 = true then 1 else 0, if ρ.b 10 = true then 1 else 0, if ρ.b 13 = true then 1 else 0, if ρ.b 16 = true then 1 else 0, if ρ.b 19 = true then 1 else 0, if ρ.b 22 = true then 1 else 0, if ρ.b 25 = true then 1 else 0, if ρ.b 28 = true then 1 else 0, if ρ.b 31 = true then 1 else 0, if ρ.b 34 = true then 1 else 0] = rS ρ x := rfl
theorem eL (ρ : Env) (x : Int) : selI [x, ρ.i 8, ρ.i 11, ρ.i 14, ρ.i 17, ρ.i 20, ρ.i 23, ρ.i 26, ρ.i 29, ρ.i 32, ρ.i 35] = rL ρ x := rfl
theorem eG (ρ : Env) (x : Int) : selI [x, ρ.i 9, ρ.i 12, ρ.i 15, ρ.i 18, ρ.i 21, ρ.i 24, ρ.i 27, ρ.i 30, ρ.i 33, ρ.i 36] = rG ρ x := rfl
def rng (ρ : Env) (x : Int) : Rng := ⟨rS ρ x, rL ρ x, rG ρ x⟩
def behE (ρ : Env) (k : Int) : Beh := beh k (ρ.i 1) (ρ.i 2) (ρ.i 3) (ρ.i 4) (ρ.i 5) (rng ρ (ρ.i 1)) (rng ρ (ρ.i 2)) (if ρ.b 7 = true then 1 else 0)
structure BehH (ρ : Env) (k : Int) : Prop where
  hI : ρ.I = CI
  h3 : -9223372036854775808 ≤ ρ.i 3 ∧ ρ.i 3 ≤ 9223372036854775807
  h4 : 0 ≤ ρ.i 4 ∧ ρ.i 4 ≤ 4294967295
  hM : MayP k (ρ.i 1) (ρ.i 2) (ρ.i 3) (ρ.i 4)
  hR : ∀ x, rL ρ x ≤ rG ρ x
  rg : ∀ x, 0 ≤ rL ρ x ∧ rG ρ x ≤ 4294967295
  hV : ∀ n : Nat, ρ.i (100 + n) = codeB (behE ρ k) n
end Go.Proofs.Ytpamdmikdnoplaa
