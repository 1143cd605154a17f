/- Laws over numbers: words of ranges. -/
import Derived.Test.YtpamdmikdnoplaaCkWord
import Derived.Lib.BitFns
namespace Go.Sx
theorem toNat_ofInt32 {x : Int} (h0 : 0 ≤ x) (h1 : x ≤ 4294967295) : (BitVec.ofInt 32 x).toNat = x.toNat := by
  simp only [BitVec.toNat_ofInt]
  congr 1
  exact Int.emod_eq_of_lt h0 (by simp; omega)
theorem and_nat {x y : Int} (hx0 : 0 ≤ x) (hx1 : x ≤ 4294967295) (hy0 : 0 ≤ y) (hy1 : y ≤ 4294967295) : arith .and .u32 x y = ((x.toNat &&& y.toNat : Nat) : Int) := by
  simp only [arith]
  show IntKind.u32.wrap ((BitVec.ofInt 32 x &&& BitVec.ofInt 32 y).toNat : Int) = _
  rw [BitVec.toNat_and, toNat_ofInt32 hx0 hx1, toNat_ofInt32 hy0 hy1]
  have := Nat.and_le_left (n := x.toNat) (m := y.toNat)
  exact fits_u32 (by omega) (by omega)
theorem or_nat {x y : Int} (hx0 : 0 ≤ x) (hx1 : x ≤ 4294967295) (hy0 : 0 ≤ y) (hy1 : y ≤ 4294967295) : arith .or .u32 x y = ((x.toNat ||| y.toNat : Nat) : Int) := by
  simp only [arith]
  show IntKind.u32.wrap ((BitVec.ofInt 32 x ||| BitVec.ofInt 32 y).toNat : Int) = _
  rw [BitVec.toNat_or, toNat_ofInt32 hx0 hx1, toNat_ofInt32 hy0 hy1]
  have : x.toNat ||| y.toNat < 2 ^ 32 := Nat.or_lt_two_pow (by omega) (by omega)
  exact fits_u32 (by omega) (by omega)
theorem xor_nat {x y : Int} (hx0 : 0 ≤ x) (hx1 : x ≤ 4294967295) (hy0 : 0 ≤ y) (hy1 : y ≤ 4294967295) : arith .xor .u32 x y = ((x.toNat ^^^ y.toNat : Nat) : Int) := by
  simp only [arith]
  show IntKind.u32.wrap ((BitVec.ofInt 32 x ^^^ BitVec.ofInt 32 y).toNat : Int) = _
  rw [BitVec.toNat_xor, toNat_ofInt32 hx0 hx1, toNat_ofInt32 hy0 hy1]
  have : x.toNat ^^^ y.toNat < 2 ^ 32 := Nat.xor_lt_two_pow (by omega) (by omega)
  exact fits_u32 (by omega) (by omega)
theorem bitLenAux_lt : ∀ (f x : Nat), x < 2 ^ f → x < 2 ^ Lib.bitLenAux f x
  | 0, x, h => by simpa [Lib.bitLenAux] using h
  | f + 1, x, h => by
    unfold Lib.bitLenAux
    split
    · rename_i h0; subst h0; simp
    · have := bitLenAux_lt f (x / 2) (by rw [Nat.pow_succ] at h; omega)
      rw [Nat.add_comm, Nat.pow_succ]
      omega
theorem bitLenAux_le : ∀ (f x k : Nat), x < 2 ^ k → Lib.bitLenAux f x ≤ k
  | 0, x, k, h => by simp [Lib.bitLenAux]
  | f + 1, x, k, h => by
    unfold Lib.bitLenAux
    split
    · omega
    · rename_i h0
      cases k with
      | zero => simp at h; omega
      | succ k =>
        have := bitLenAux_le f (x / 2) k (by rw [Nat.pow_succ] at h; omega)
        omega
/-- The ones of a word. -/
theorem ones_word {x : Int} (h0 : 0 ≤ x) (h1 : x ≤ 4294967295) : ∃ k : Nat, k ≤ 32 ∧ x.toNat < 2 ^ k ∧ (Lib.bitLen x.toNat : Int) = k ∧
    IntKind.u32.wrap (IntKind.u64.wrap (arith .shl .u64 1 (Lib.bitLen x.toNat : Int) - 1)) = (2 : Int) ^ k - 1 := by
  refine ⟨Lib.bitLen x.toNat, bitLenAux_le 64 _ 32 (by omega), bitLenAux_lt 64 _ (by omega), rfl, ?_⟩
  have hk : Lib.bitLen x.toNat ≤ 32 := bitLenAux_le 64 _ 32 (by omega)
  generalize Lib.bitLen x.toNat = k at *
  have hp : (2 : Int) ^ k ≤ 2 ^ 32 := by
    have := Nat.pow_le_pow_right (show 0 < 2 by omega) hk
    exact_mod_cast this
  have hq : (1 : Int) ≤ 2 ^ k := by
    have := Nat.one_le_two_pow (n := k)
    exact_mod_cast this
  have e : arith .shl .u64 1 (k : Int) = 2 ^ k := by
    simp only [arith, Int.toNat_natCast, IntKind.bits, Int.one_mul]
    rw [Nat.min_eq_left (by omega)]
    exact fits_u64 (by omega) (by omega)
  rw [e]
  generalize (2 : Int) ^ k = p at *
  rw [fits_u64 (by omega) (by omega), fits_u32 (by omega) (by omega)]
theorem and_le {a b : Int} (ha0 : 0 ≤ a) (ha1 : a ≤ 4294967295) (hb0 : 0 ≤ b) (hb1 : b ≤ 4294967295) : 0 ≤ arith .and .u32 a b ∧ arith .and .u32 a b ≤ a ∧ arith .and .u32 a b ≤ b := by
  rw [and_nat ha0 ha1 hb0 hb1]
  have h1 := Nat.and_le_left (n := a.toNat) (m := b.toNat)
  have h2 := Nat.and_le_right (n := a.toNat) (m := b.toNat)
  omega
theorem or_ge {a b : Int} (ha0 : 0 ≤ a) (ha1 : a ≤ 4294967295) (hb0 : 0 ≤ b) (hb1 : b ≤ 4294967295) : a ≤ arith .or .u32 a b ∧ b ≤ arith .or .u32 a b := by
  rw [or_nat ha0 ha1 hb0 hb1]
  have h1 := Nat.left_le_or (n := a.toNat) (m := b.toNat)
  have h2 := Nat.right_le_or (n := a.toNat) (m := b.toNat)
  omega
theorem or_lt {a b : Int} {k : Nat} (ha0 : 0 ≤ a) (ha1 : a ≤ 4294967295) (hb0 : 0 ≤ b) (hb1 : b ≤ 4294967295) (ha : a.toNat < 2 ^ k) (hb : b.toNat < 2 ^ k) : arith .or .u32 a b ≤ 2 ^ k - 1 := by
  rw [or_nat ha0 ha1 hb0 hb1]
  have := Nat.or_lt_two_pow ha hb
  have h2 : ((a.toNat ||| b.toNat : Nat) : Int) < ((2 ^ k : Nat) : Int) := by exact_mod_cast this
  simp only [Int.natCast_pow] at h2
  exact Int.le_sub_one_of_lt h2
theorem xor_lt {a b : Int} {k : Nat} (ha0 : 0 ≤ a) (ha1 : a ≤ 4294967295) (hb0 : 0 ≤ b) (hb1 : b ≤ 4294967295) (ha : a.toNat < 2 ^ k) (hb : b.toNat < 2 ^ k) : 0 ≤ arith .xor .u32 a b ∧ arith .xor .u32 a b ≤ 2 ^ k - 1 := by
  rw [xor_nat ha0 ha1 hb0 hb1]
  have := Nat.xor_lt_two_pow ha hb
  have h2 : ((a.toNat ^^^ b.toNat : Nat) : Int) < ((2 ^ k : Nat) : Int) := by exact_mod_cast this
  simp only [Int.natCast_pow] at h2
  exact ⟨by omega, Int.le_sub_one_of_lt h2⟩
theorem quo_nat {k : IntKind} {a b : Int} (hk : k = .u32 ∨ k = .u64) (ha0 : 0 ≤ a) (ha1 : a ≤ 4294967295) (hb0 : 0 < b) : arith .quo k a b = ((a.toNat / b.toNat : Nat) : Int) := by
  simp only [arith]
  have e : a.tdiv b = ((a.toNat / b.toNat : Nat) : Int) := by
    rw [Int.tdiv_eq_ediv_of_nonneg ha0]
    conv => lhs; rw [show a = (a.toNat : Int) by omega, show b = (b.toNat : Int) by omega]
    rfl
  rw [e]
  have := Nat.div_le_self a.toNat b.toNat
  generalize a.toNat / b.toNat = q at *
  rcases hk with rfl | rfl
  · exact fits_u32 (by omega) (by omega)
  · exact fits_u64 (by omega) (by omega)
theorem mul_word {a b dl dg sl sg : Int} (h1 : 0 ≤ dl) (h2 : 0 ≤ sl) (ha : dl ≤ a ∧ a ≤ dg) (hb : sl ≤ b ∧ b ≤ sg) (h : dg * sg ≤ 4294967295) :
    dl * sl ≤ a * b ∧ a * b ≤ dg * sg ∧
    IntKind.u32.wrap (arith .rem .i64 (IntKind.i64.wrap (IntKind.i64.wrap (arith .rem .i64 (IntKind.i64.wrap (a / 65536 * b)) 4294967296 * 65536) + a % 65536 * b)) 4294967296) = a * b := by
  have m1 : dl * sl ≤ a * b := Int.mul_le_mul ha.1 hb.1 h2 (by omega)
  have m2 : a * b ≤ dg * sg := Int.mul_le_mul ha.2 hb.2 (by omega) (by omega)
  refine ⟨m1, m2, ?_⟩
  have ea : a = a / 65536 * 65536 + a % 65536 := by omega
  have hq : 0 ≤ a / 65536 := by omega
  have hr : 0 ≤ a % 65536 := by omega
  have e : a * b = a / 65536 * b * 65536 + a % 65536 * b := by
    conv => lhs; rw [ea]
    rw [Int.add_mul, Int.mul_right_comm]
  have p1 : 0 ≤ a / 65536 * b := Int.mul_nonneg hq (by omega)
  have p2 : 0 ≤ a % 65536 * b := Int.mul_nonneg hr (by omega)
  generalize a / 65536 * b = x at *
  generalize a % 65536 * b = y at *
  generalize a * b = z at *
  clear ea hq hr
  simp only [arith]
  rw [fits_i64 (x := x) (by omega) (by omega), Int.tmod_eq_emod_of_nonneg p1, Int.emod_eq_of_lt p1 (by omega), fits_i64 (x := x * 65536) (by omega) (by omega), fits_i64 (x := x * 65536 + y) (by omega) (by omega),
    Int.tmod_eq_emod_of_nonneg (by omega), Int.emod_eq_of_lt (by omega) (by omega), fits_u32 (by omega) (by omega), e]
theorem mod_word {a b : Int} (ha0 : 0 ≤ a) (hb0 : 0 < b) : 0 ≤ arith .rem .u32 a b ∧ arith .rem .u32 a b < b ∧ arith .rem .u32 a b ≤ a := by
  simp only [arith]
  rw [Int.tmod_eq_emod_of_nonneg ha0]
  refine ⟨Int.emod_nonneg _ (by omega), Int.emod_lt_of_pos _ hb0, ?_⟩
  have h1 := Int.mul_ediv_add_emod a b
  have h2 : 0 ≤ b * (a / b) := Int.mul_nonneg (by omega) (Int.ediv_nonneg ha0 (by omega))
  omega
theorem quo_word {a b dl dg sl sg : Int} (h1 : 0 ≤ dl) (h2 : dg ≤ 4294967295) (h3 : 0 < sl) (h4 : sg ≤ 4294967295) (ha : dl ≤ a ∧ a ≤ dg) (hb : sl ≤ b ∧ b ≤ sg) :
    IntKind.u32.wrap (arith .quo .u64 dl sg) ≤ arith .quo .u32 a b ∧ arith .quo .u32 a b ≤ IntKind.u32.wrap (arith .quo .u64 dg sl) := by
  rw [quo_nat (.inr rfl) h1 (by omega) (by omega), quo_nat (.inr rfl) (by omega) h2 h3, quo_nat (.inl rfl) (by omega) (by omega) (by omega)]
  have d1 := Nat.div_le_self dl.toNat sg.toNat
  have d2 := Nat.div_le_self dg.toNat sl.toNat
  have q1 : dl.toNat / sg.toNat ≤ a.toNat / b.toNat := Nat.div_le_div (by omega) (by omega) (by omega)
  have q2 : a.toNat / b.toNat ≤ dg.toNat / sl.toNat := Nat.div_le_div (by omega) (by omega) (by omega)
  generalize dl.toNat / sg.toNat = x at *
  generalize dg.toNat / sl.toNat = y at *
  generalize a.toNat / b.toNat = z at *
  rw [fits_u32 (x := (x : Int)) (by omega) (by omega), fits_u32 (x := (y : Int)) (by omega) (by omega)]
  omega
theorem add_word {a b dl dg sl sg : Int} (h1 : 0 ≤ dl) (h2 : 0 ≤ sl) (ha : dl ≤ a ∧ a ≤ dg) (hb : sl ≤ b ∧ b ≤ sg) (h : dg + sg ≤ 4294967295) :
    IntKind.u32.wrap (dl + sl) ≤ (a + b) % 4294967296 ∧ (a + b) % 4294967296 ≤ IntKind.u32.wrap (dg + sg) := by
  rw [fits_u32 (x := dl + sl) (by omega) (by omega), fits_u32 (x := dg + sg) (by omega) (by omega), Int.emod_eq_of_lt (by omega) (by omega)]
  omega
theorem sub_word {a b dl dg sl sg : Int} (h1 : dg ≤ 4294967295) (h2 : 0 ≤ sl) (ha : dl ≤ a ∧ a ≤ dg) (hb : sl ≤ b ∧ b ≤ sg) (h : sg ≤ dl) :
    IntKind.u32.wrap (IntKind.u64.wrap (dl - sg)) ≤ (a + 4294967296 - b) % 4294967296 ∧ (a + 4294967296 - b) % 4294967296 ≤ IntKind.u32.wrap (IntKind.u64.wrap (dg - sl)) := by
  rw [fits_u64 (x := dl - sg) (by omega) (by omega), fits_u64 (x := dg - sl) (by omega) (by omega), fits_u32 (x := dl - sg) (by omega) (by omega), fits_u32 (x := dg - sl) (by omega) (by omega)]
  have : (a + 4294967296 - b) % 4294967296 = a - b := by omega
  omega
theorem rem_word {a b dg sg : Int} (h1 : 0 ≤ a ∧ a ≤ dg) (h2 : dg ≤ 4294967295) (hb : 0 < b ∧ b ≤ sg) (h3 : sg ≤ 4294967295) :
    0 ≤ IntKind.i64.wrap (arith .rem .u32 a b) ∧ IntKind.i64.wrap (arith .rem .u32 a b) ≤ IntKind.u32.wrap (cif (IntKind.u64.wrap (sg - 1) < dg) (IntKind.u64.wrap (sg - 1)) dg) := by
  obtain ⟨r1, r2, r3⟩ := mod_word (a := a) (b := b) h1.1 hb.1
  generalize arith .rem .u32 a b = r at *
  rw [fits_i64 (by omega) (by omega), fits_u64 (x := sg - 1) (by omega) (by omega)]
  have f := cif_or (sg - 1 < dg) (sg - 1) dg
  generalize cif (sg - 1 < dg) (sg - 1) dg = c at *
  rw [fits_u32 (by omega) (by omega)]
  omega
theorem mul_word' {a b dl dg sl sg : Int} (h1 : 0 ≤ dl) (h2 : 0 ≤ sl) (ha : dl ≤ a ∧ a ≤ dg) (hb : sl ≤ b ∧ b ≤ sg) (h : dg * sg ≤ 4294967295) :
    IntKind.u32.wrap (dl * sl) ≤ IntKind.u32.wrap (arith .rem .i64 (IntKind.i64.wrap (IntKind.i64.wrap (arith .rem .i64 (IntKind.i64.wrap (a / 65536 * b)) 4294967296 * 65536) + a % 65536 * b)) 4294967296) ∧
    IntKind.u32.wrap (arith .rem .i64 (IntKind.i64.wrap (IntKind.i64.wrap (arith .rem .i64 (IntKind.i64.wrap (a / 65536 * b)) 4294967296 * 65536) + a % 65536 * b)) 4294967296) ≤ IntKind.u32.wrap (dg * sg) := by
  obtain ⟨m1, m2, m3⟩ := mul_word h1 h2 ha hb h
  have p0 : 0 ≤ dl * sl := Int.mul_nonneg h1 h2
  rw [m3, fits_u32 (x := dl * sl) p0 (by omega), fits_u32 (x := dg * sg) (by omega) h]
  exact ⟨m1, m2⟩
end Go.Sx
