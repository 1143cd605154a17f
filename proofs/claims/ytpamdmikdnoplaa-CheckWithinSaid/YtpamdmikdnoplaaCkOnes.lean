/- The ones of a number by its length in bits. -/
import Derived.Test.YtpamdmikdnoplaaCkPure2
import Derived.Test.YtpamdmikdnoplaaCkPc2
namespace Go.Proofs.Ytpamdmikdnoplaa
open Go.Sx Go.RowKit Go.Ck
set_option linter.unusedVariables false
set_option maxRecDepth 100000
theorem bitLenAux_more : ∀ (f d x : Nat), x < 2 ^ f → Lib.bitLenAux (f + d) x = Lib.bitLenAux f x
  | 0, d, x, h => by
    have : x = 0 := by simpa using h
    subst this
    cases d <;> simp [Lib.bitLenAux]
  | f + 1, d, x, h => by
    rw [show f + 1 + d = (f + d) + 1 by omega]
    unfold Lib.bitLenAux
    split
    · rfl
    · rw [bitLenAux_more f d (x / 2) (by rw [Nat.pow_succ] at h; omega)]
theorem onesN_eq : ∀ (f j n : Nat), onesN f ((2 ^ j : Nat) - 1 : Int) (n : Int) = ((2 ^ (j + Lib.bitLenAux f (n / 2 ^ j)) : Nat) : Int) - 1
  | 0, j, n => by simp [onesN, Lib.bitLenAux]
  | f + 1, j, n => by
    have hp : 0 < 2 ^ j := Nat.two_pow_pos j
    unfold onesN Lib.bitLenAux
    by_cases h : n < 2 ^ j
    · rw [if_neg (by omega), if_pos (Nat.div_eq_of_lt h)]; rfl
    · have hd : ¬ n / 2 ^ j = 0 := by
        intro h0
        rcases (Nat.div_eq_zero_iff.1 h0) with h1 | h1 <;> omega
      rw [if_pos (by omega), if_neg hd]
      have e1 : (2 * (((2 ^ j : Nat) : Int) - 1) + 1 : Int) = ((2 ^ (j + 1) : Nat) : Int) - 1 := by rw [Nat.pow_succ]; omega
      rw [e1, onesN_eq f (j + 1) n]
      have e2 : n / 2 ^ (j + 1) = n / 2 ^ j / 2 := by rw [Nat.pow_succ, Nat.div_div_eq_div_mul]
      rw [e2, show j + 1 + Lib.bitLenAux f (n / 2 ^ j / 2) = j + (1 + Lib.bitLenAux f (n / 2 ^ j / 2)) by omega]
theorem ones_bits {x : Int} (h0 : 0 ≤ x) (h1 : x ≤ 4294967295) : IntKind.u64.wrap (arith .shl .u64 1 (Lib.bitLen x.toNat : Int) - 1) = ones x := by
  have hb : Lib.bitLen x.toNat = Lib.bitLenAux 33 x.toNat := bitLenAux_more 33 31 x.toNat (by omega)
  have hk : Lib.bitLen x.toNat ≤ 32 := bitLenAux_le 64 _ 32 (by omega)
  have ho : ones x = ((2 ^ Lib.bitLen x.toNat : Nat) : Int) - 1 := by
    have := onesN_eq 33 0 x.toNat
    rw [hb]
    simp only [Nat.pow_zero, Nat.div_one, Nat.zero_add] at this
    unfold ones
    rw [← this]
    congr 1
    omega
  rw [ho]
  generalize Lib.bitLen x.toNat = k at *
  have hp : 2 ^ k ≤ 2 ^ 32 := Nat.pow_le_pow_right (by omega) hk
  have hq : 1 ≤ 2 ^ k := Nat.one_le_two_pow
  have e : arith .shl .u64 1 (k : Int) = ((2 ^ k : Nat) : Int) := by
    simp only [arith, Int.toNat_natCast, IntKind.bits, Int.one_mul]
    rw [Nat.min_eq_left (by omega)]
    have e2 : (2 : Int) ^ k = ((2 ^ k : Nat) : Int) := by simp
    rw [e2]
    exact fits_u64 (by omega) (by omega)
  rw [e]
  exact fits_u64 (by omega) (by omega)
def lenOnly : FuncId → Option Ctr
  | 92 => some (pureCtr lenG)
  | _ => none
theorem lenOnly_ok (ρ : Env) (hI : ρ.I = CI) (f : FuncId) (c : Ctr) (h : lenOnly f = some c) (w0 : World) (own : Own) : CtrOk Try.prog ρ w0 own f c := by
  unfold lenOnly at h
  split at h
  · simp only [Option.some.injEq] at h; subst h; exact len_ok' ρ (fun x => by rw [hI]; rfl) w0 own
  · cases h
theorem den_len (x : Int) : clampF 64 (CI 64 [x]) = (Lib.bitLen x.toNat : Int) := rfl

def ones79T : NT :=
 (.both (.goal (.le (.lit 0) (.app (.app 64 (.cons (.var 0) .nil)))))
 (.goal (.eq (.wrap .u64 (.sub (.bin .shl .u64 (.lit 1) (.app (.app 64 (.cons (.var 0) .nil)))) (.lit 1))) (.app (.app 71 (.cons (.var 0) .nil))))))
set_option maxHeartbeats 8000000 in
theorem ones79_ev : finT [(0, 4294967295)] (chk ones79C.post (evFn Try.prog lenOnly 20 30 79 (symA 0 ones79C.shs) [] ones79C.pre)) = ones79T := by kernel_rfl
theorem ones79_holds (ρ : Env) (hI : ρ.I = CI) (hpre : ∀ e ∈ ones79C.pre, e.denB ρ = true) (hf : ρ.Fits [(0, 4294967295)]) : ones79T.Holds ρ := by
  have h0 := hf 0 0 4294967295 rfl
  simp only [ones79T, NT.Holds, N.denP, N.den, E.den, E.denL, appI, hI, den_ones, den_len]
  exact ⟨by omega, ones_bits h0.1 h0.2⟩

theorem ones79_ok : ones79C.Ok Try.prog CI 79 := PC.of_tree lenOnly_ok (by kernel_rfl) ones79_ev (fun ρ _ h => fits1 h) ones79_holds

end Go.Proofs.Ytpamdmikdnoplaa