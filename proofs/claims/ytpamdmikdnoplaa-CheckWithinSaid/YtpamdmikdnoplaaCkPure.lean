/- Contracts of small functions: which instructions may be, ranges that may be, ones, powers. -/
import Derived.Test.YtpamdmikdnoplaaCkPc
import Derived.Test.YtpamdmikdnoplaaCkSpec
import Derived.Test.YtpamdmikdnoplaaCkLen
import Derived.Test.YtpamdmikdnoplaaCkArith
namespace Go.Proofs.Ytpamdmikdnoplaa
open Go.Sx Go.RowKit Go.Ck
set_option linter.unusedVariables false
set_option maxRecDepth 100000
noncomputable def CI : Nat → List Int → Int := I0 (fun x => (Lib.bitLen x.toNat : Int)) behI
theorem lt_of {k x : Int} (h : k ≤ x) (hn : ¬ x = k) : k + 1 ≤ x := by omega
theorem den_may (ρ : Env) (hI : ρ.I = CI) (a b c d e : E) : (E.app 300 (.cons a (.cons b (.cons c (.cons d (.cons e .nil)))))).denB ρ = true ↔ MayP (a.den ρ) (b.den ρ) (c.den ρ) (d.den ρ) (e.den ρ) := by
  have : (E.app 300 (.cons a (.cons b (.cons c (.cons d (.cons e .nil)))))).denB ρ = (clampF 300 (CI 300 [a.den ρ, b.den ρ, c.den ρ, d.den ρ, e.den ρ]) != 0) := by simp only [E.denB, E.denL, appI, hI]
  rw [this]
  show (clampF 300 (bit (MayP (a.den ρ) (b.den ρ) (c.den ρ) (d.den ρ) (e.den ρ))) != 0) = true ↔ _
  generalize MayP (a.den ρ) (b.den ρ) (c.den ρ) (d.den ρ) (e.den ρ) = p
  have e : clampF 300 (bit p) = bit p := by
    have := bit_01 p
    unfold clampF
    rw [if_neg (by decide), if_neg (by decide), if_pos (by decide)]
    split <;> omega
  rw [e, bne_iff_ne, bit_ne]

def may43T : NT :=
 (.ite (.ite (.lt (.var 0) (.lit 1)) (.lit 1) (.lt (.lit 24) (.var 0)))
 (.goal (.iff (.lit 0) (.app (.app 300 (.cons (.var 0) (.cons (.var 1) (.cons (.var 2) (.cons (.var 3) (.cons (.var 4) .nil)))))))))
 (.ite (.eq (.var 0) (.lit 0))
 (.ite (.eq (.var 1) (.lit 0))
 (.ite (.eq (.var 2) (.lit 0))
 (.goal (.iff (.ite (.eq (.var 3) (.lit 0)) (.le (.var 4) (.lit 0)) (.lit 0)) (.app (.app 300 (.cons (.var 0) (.cons (.var 1) (.cons (.var 2) (.cons (.var 3) (.cons (.var 4) .nil)))))))))
 (.goal (.iff (.lit 0) (.app (.app 300 (.cons (.var 0) (.cons (.var 1) (.cons (.var 2) (.cons (.var 3) (.cons (.var 4) .nil))))))))))
 (.goal (.iff (.lit 0) (.app (.app 300 (.cons (.var 0) (.cons (.var 1) (.cons (.var 2) (.cons (.var 3) (.cons (.var 4) .nil))))))))))
 (.ite (.eq (.var 0) (.lit 1))
 (.ite (.ite (.le (.lit 0) (.var 1)) (.le (.var 1) (.lit 9)) (.lit 0))
 (.ite (.eq (.var 2) (.lit 0))
 (.goal (.iff (.ite (.eq (.var 3) (.lit 0)) (.lit 1) (.lit 0)) (.app (.app 300 (.cons (.var 0) (.cons (.var 1) (.cons (.var 2) (.cons (.var 3) (.cons (.var 4) .nil)))))))))
 (.goal (.iff (.lit 0) (.app (.app 300 (.cons (.var 0) (.cons (.var 1) (.cons (.var 2) (.cons (.var 3) (.cons (.var 4) .nil))))))))))
 (.goal (.iff (.lit 0) (.app (.app 300 (.cons (.var 0) (.cons (.var 1) (.cons (.var 2) (.cons (.var 3) (.cons (.var 4) .nil))))))))))
 (.ite (.eq (.var 0) (.lit 2))
 (.ite (.ite (.le (.lit 0) (.var 1)) (.le (.var 1) (.lit 9)) (.lit 0))
 (.ite (.ite (.le (.lit 0) (.var 2)) (.le (.var 2) (.lit 9)) (.lit 0))
 (.goal (.iff (.ite (.eq (.var 3) (.lit 0)) (.le (.var 4) (.lit 0)) (.lit 0)) (.app (.app 300 (.cons (.var 0) (.cons (.var 1) (.cons (.var 2) (.cons (.var 3) (.cons (.var 4) .nil)))))))))
 (.goal (.iff (.lit 0) (.app (.app 300 (.cons (.var 0) (.cons (.var 1) (.cons (.var 2) (.cons (.var 3) (.cons (.var 4) .nil))))))))))
 (.goal (.iff (.lit 0) (.app (.app 300 (.cons (.var 0) (.cons (.var 1) (.cons (.var 2) (.cons (.var 3) (.cons (.var 4) .nil))))))))))
 (.ite (.eq (.var 0) (.lit 3))
 (.ite (.ite (.le (.lit 0) (.var 1)) (.le (.var 1) (.lit 9)) (.lit 0))
 (.ite (.eq (.var 2) (.lit 0))
 (.goal (.iff (.ite (.eq (.var 3) (.lit 0)) (.lit 1) (.lit 0)) (.app (.app 300 (.cons (.var 0) (.cons (.var 1) (.cons (.var 2) (.cons (.var 3) (.cons (.var 4) .nil)))))))))
 (.goal (.iff (.lit 0) (.app (.app 300 (.cons (.var 0) (.cons (.var 1) (.cons (.var 2) (.cons (.var 3) (.cons (.var 4) .nil))))))))))
 (.goal (.iff (.lit 0) (.app (.app 300 (.cons (.var 0) (.cons (.var 1) (.cons (.var 2) (.cons (.var 3) (.cons (.var 4) .nil))))))))))
 (.ite (.eq (.var 0) (.lit 4))
 (.ite (.ite (.le (.lit 0) (.var 1)) (.le (.var 1) (.lit 9)) (.lit 0))
 (.ite (.ite (.le (.lit 0) (.var 2)) (.le (.var 2) (.lit 9)) (.lit 0))
 (.goal (.iff (.ite (.eq (.var 3) (.lit 0)) (.le (.var 4) (.lit 0)) (.lit 0)) (.app (.app 300 (.cons (.var 0) (.cons (.var 1) (.cons (.var 2) (.cons (.var 3) (.cons (.var 4) .nil)))))))))
 (.goal (.iff (.lit 0) (.app (.app 300 (.cons (.var 0) (.cons (.var 1) (.cons (.var 2) (.cons (.var 3) (.cons (.var 4) .nil))))))))))
 (.goal (.iff (.lit 0) (.app (.app 300 (.cons (.var 0) (.cons (.var 1) (.cons (.var 2) (.cons (.var 3) (.cons (.var 4) .nil))))))))))
 (.ite (.eq (.var 0) (.lit 5))
 (.ite (.ite (.le (.lit 0) (.var 1)) (.le (.var 1) (.lit 9)) (.lit 0))
 (.ite (.ite (.le (.lit 0) (.var 2)) (.le (.var 2) (.lit 9)) (.lit 0))
 (.goal (.iff (.ite (.eq (.var 3) (.lit 0)) (.le (.var 4) (.lit 0)) (.lit 0)) (.app (.app 300 (.cons (.var 0) (.cons (.var 1) (.cons (.var 2) (.cons (.var 3) (.cons (.var 4) .nil)))))))))
 (.goal (.iff (.lit 0) (.app (.app 300 (.cons (.var 0) (.cons (.var 1) (.cons (.var 2) (.cons (.var 3) (.cons (.var 4) .nil))))))))))
 (.goal (.iff (.lit 0) (.app (.app 300 (.cons (.var 0) (.cons (.var 1) (.cons (.var 2) (.cons (.var 3) (.cons (.var 4) .nil))))))))))
 (.ite (.eq (.var 0) (.lit 6))
 (.ite (.ite (.le (.lit 0) (.var 1)) (.le (.var 1) (.lit 9)) (.lit 0))
 (.ite (.eq (.var 2) (.lit 0))
 (.goal (.iff (.ite (.eq (.var 3) (.lit 0)) (.lit 1) (.lit 0)) (.app (.app 300 (.cons (.var 0) (.cons (.var 1) (.cons (.var 2) (.cons (.var 3) (.cons (.var 4) .nil)))))))))
 (.goal (.iff (.lit 0) (.app (.app 300 (.cons (.var 0) (.cons (.var 1) (.cons (.var 2) (.cons (.var 3) (.cons (.var 4) .nil))))))))))
 (.goal (.iff (.lit 0) (.app (.app 300 (.cons (.var 0) (.cons (.var 1) (.cons (.var 2) (.cons (.var 3) (.cons (.var 4) .nil))))))))))
 (.ite (.eq (.var 0) (.lit 7))
 (.ite (.ite (.le (.lit 0) (.var 1)) (.le (.var 1) (.lit 9)) (.lit 0))
 (.ite (.ite (.le (.lit 0) (.var 2)) (.le (.var 2) (.lit 9)) (.lit 0))
 (.goal (.iff (.ite (.eq (.var 3) (.lit 0)) (.le (.var 4) (.lit 0)) (.lit 0)) (.app (.app 300 (.cons (.var 0) (.cons (.var 1) (.cons (.var 2) (.cons (.var 3) (.cons (.var 4) .nil)))))))))
 (.goal (.iff (.lit 0) (.app (.app 300 (.cons (.var 0) (.cons (.var 1) (.cons (.var 2) (.cons (.var 3) (.cons (.var 4) .nil))))))))))
 (.goal (.iff (.lit 0) (.app (.app 300 (.cons (.var 0) (.cons (.var 1) (.cons (.var 2) (.cons (.var 3) (.cons (.var 4) .nil))))))))))
 (.ite (.eq (.var 0) (.lit 8))
 (.ite (.ite (.le (.lit 0) (.var 1)) (.le (.var 1) (.lit 9)) (.lit 0))
 (.ite (.eq (.var 2) (.lit 0))
 (.goal (.iff (.ite (.eq (.var 3) (.lit 0)) (.lit 1) (.lit 0)) (.app (.app 300 (.cons (.var 0) (.cons (.var 1) (.cons (.var 2) (.cons (.var 3) (.cons (.var 4) .nil)))))))))
 (.goal (.iff (.lit 0) (.app (.app 300 (.cons (.var 0) (.cons (.var 1) (.cons (.var 2) (.cons (.var 3) (.cons (.var 4) .nil))))))))))
 (.goal (.iff (.lit 0) (.app (.app 300 (.cons (.var 0) (.cons (.var 1) (.cons (.var 2) (.cons (.var 3) (.cons (.var 4) .nil))))))))))
 (.ite (.eq (.var 0) (.lit 9))
 (.ite (.ite (.le (.lit 0) (.var 1)) (.le (.var 1) (.lit 9)) (.lit 0))
 (.ite (.ite (.le (.lit 0) (.var 2)) (.le (.var 2) (.lit 9)) (.lit 0))
 (.goal (.iff (.ite (.eq (.var 3) (.lit 0)) (.le (.var 4) (.lit 0)) (.lit 0)) (.app (.app 300 (.cons (.var 0) (.cons (.var 1) (.cons (.var 2) (.cons (.var 3) (.cons (.var 4) .nil)))))))))
 (.goal (.iff (.lit 0) (.app (.app 300 (.cons (.var 0) (.cons (.var 1) (.cons (.var 2) (.cons (.var 3) (.cons (.var 4) .nil))))))))))
 (.goal (.iff (.lit 0) (.app (.app 300 (.cons (.var 0) (.cons (.var 1) (.cons (.var 2) (.cons (.var 3) (.cons (.var 4) .nil))))))))))
 (.ite (.eq (.var 0) (.lit 10))
 (.ite (.ite (.le (.lit 0) (.var 1)) (.le (.var 1) (.lit 9)) (.lit 0))
 (.ite (.ite (.le (.lit 0) (.var 2)) (.le (.var 2) (.lit 9)) (.lit 0))
 (.goal (.iff (.ite (.eq (.var 3) (.lit 0)) (.le (.var 4) (.lit 0)) (.lit 0)) (.app (.app 300 (.cons (.var 0) (.cons (.var 1) (.cons (.var 2) (.cons (.var 3) (.cons (.var 4) .nil)))))))))
 (.goal (.iff (.lit 0) (.app (.app 300 (.cons (.var 0) (.cons (.var 1) (.cons (.var 2) (.cons (.var 3) (.cons (.var 4) .nil))))))))))
 (.goal (.iff (.lit 0) (.app (.app 300 (.cons (.var 0) (.cons (.var 1) (.cons (.var 2) (.cons (.var 3) (.cons (.var 4) .nil))))))))))
 (.ite (.eq (.var 0) (.lit 11))
 (.ite (.ite (.le (.lit 0) (.var 1)) (.le (.var 1) (.lit 9)) (.lit 0))
 (.ite (.ite (.le (.lit 0) (.var 2)) (.le (.var 2) (.lit 9)) (.lit 0))
 (.goal (.iff (.ite (.eq (.var 3) (.lit 0)) (.le (.var 4) (.lit 0)) (.lit 0)) (.app (.app 300 (.cons (.var 0) (.cons (.var 1) (.cons (.var 2) (.cons (.var 3) (.cons (.var 4) .nil)))))))))
 (.goal (.iff (.lit 0) (.app (.app 300 (.cons (.var 0) (.cons (.var 1) (.cons (.var 2) (.cons (.var 3) (.cons (.var 4) .nil))))))))))
 (.goal (.iff (.lit 0) (.app (.app 300 (.cons (.var 0) (.cons (.var 1) (.cons (.var 2) (.cons (.var 3) (.cons (.var 4) .nil))))))))))
 (.ite (.eq (.var 0) (.lit 12))
 (.ite (.ite (.le (.lit 0) (.var 1)) (.le (.var 1) (.lit 9)) (.lit 0))
 (.ite (.eq (.var 2) (.lit 0))
 (.goal (.iff (.ite (.eq (.var 3) (.lit 0)) (.le (.var 4) (.lit 31)) (.lit 0)) (.app (.app 300 (.cons (.var 0) (.cons (.var 1) (.cons (.var 2) (.cons (.var 3) (.cons (.var 4) .nil)))))))))
 (.goal (.iff (.lit 0) (.app (.app 300 (.cons (.var 0) (.cons (.var 1) (.cons (.var 2) (.cons (.var 3) (.cons (.var 4) .nil))))))))))
 (.goal (.iff (.lit 0) (.app (.app 300 (.cons (.var 0) (.cons (.var 1) (.cons (.var 2) (.cons (.var 3) (.cons (.var 4) .nil))))))))))
 (.ite (.eq (.var 0) (.lit 13))
 (.ite (.ite (.le (.lit 0) (.var 1)) (.le (.var 1) (.lit 9)) (.lit 0))
 (.ite (.eq (.var 2) (.lit 0))
 (.goal (.iff (.ite (.eq (.var 3) (.lit 0)) (.le (.var 4) (.lit 31)) (.lit 0)) (.app (.app 300 (.cons (.var 0) (.cons (.var 1) (.cons (.var 2) (.cons (.var 3) (.cons (.var 4) .nil)))))))))
 (.goal (.iff (.lit 0) (.app (.app 300 (.cons (.var 0) (.cons (.var 1) (.cons (.var 2) (.cons (.var 3) (.cons (.var 4) .nil))))))))))
 (.goal (.iff (.lit 0) (.app (.app 300 (.cons (.var 0) (.cons (.var 1) (.cons (.var 2) (.cons (.var 3) (.cons (.var 4) .nil))))))))))
 (.ite (.eq (.var 0) (.lit 14))
 (.ite (.ite (.le (.lit 0) (.var 1)) (.le (.var 1) (.lit 9)) (.lit 0))
 (.ite (.ite (.le (.lit 0) (.var 2)) (.le (.var 2) (.lit 9)) (.lit 0))
 (.goal (.iff (.ite (.eq (.var 3) (.lit 0)) (.le (.var 4) (.lit 0)) (.lit 0)) (.app (.app 300 (.cons (.var 0) (.cons (.var 1) (.cons (.var 2) (.cons (.var 3) (.cons (.var 4) .nil)))))))))
 (.goal (.iff (.lit 0) (.app (.app 300 (.cons (.var 0) (.cons (.var 1) (.cons (.var 2) (.cons (.var 3) (.cons (.var 4) .nil))))))))))
 (.goal (.iff (.lit 0) (.app (.app 300 (.cons (.var 0) (.cons (.var 1) (.cons (.var 2) (.cons (.var 3) (.cons (.var 4) .nil))))))))))
 (.ite (.eq (.var 0) (.lit 15))
 (.ite (.ite (.le (.lit 0) (.var 1)) (.le (.var 1) (.lit 9)) (.lit 0))
 (.ite (.ite (.le (.lit 0) (.var 2)) (.le (.var 2) (.lit 9)) (.lit 0))
 (.goal (.iff (.ite (.eq (.var 3) (.lit 0)) (.le (.var 4) (.lit 0)) (.lit 0)) (.app (.app 300 (.cons (.var 0) (.cons (.var 1) (.cons (.var 2) (.cons (.var 3) (.cons (.var 4) .nil)))))))))
 (.goal (.iff (.lit 0) (.app (.app 300 (.cons (.var 0) (.cons (.var 1) (.cons (.var 2) (.cons (.var 3) (.cons (.var 4) .nil))))))))))
 (.goal (.iff (.lit 0) (.app (.app 300 (.cons (.var 0) (.cons (.var 1) (.cons (.var 2) (.cons (.var 3) (.cons (.var 4) .nil))))))))))
 (.ite (.eq (.var 0) (.lit 16))
 (.ite (.ite (.le (.lit 0) (.var 1)) (.le (.var 1) (.lit 9)) (.lit 0))
 (.ite (.ite (.le (.lit 0) (.var 2)) (.le (.var 2) (.lit 9)) (.lit 0))
 (.goal (.iff (.ite (.ite (.le (.lit (-32768)) (.var 3)) (.le (.var 3) (.lit 32767)) (.lit 0)) (.le (.var 4) (.lit 0)) (.lit 0)) (.app (.app 300 (.cons (.var 0) (.cons (.var 1) (.cons (.var 2) (.cons (.var 3) (.cons (.var 4) .nil)))))))))
 (.goal (.iff (.lit 0) (.app (.app 300 (.cons (.var 0) (.cons (.var 1) (.cons (.var 2) (.cons (.var 3) (.cons (.var 4) .nil))))))))))
 (.goal (.iff (.lit 0) (.app (.app 300 (.cons (.var 0) (.cons (.var 1) (.cons (.var 2) (.cons (.var 3) (.cons (.var 4) .nil))))))))))
 (.ite (.eq (.var 0) (.lit 17))
 (.ite (.ite (.le (.lit 0) (.var 1)) (.le (.var 1) (.lit 9)) (.lit 0))
 (.ite (.ite (.le (.lit 0) (.var 2)) (.le (.var 2) (.lit 9)) (.lit 0))
 (.goal (.iff (.ite (.ite (.le (.lit (-32768)) (.var 3)) (.le (.var 3) (.lit 32767)) (.lit 0)) (.le (.var 4) (.lit 0)) (.lit 0)) (.app (.app 300 (.cons (.var 0) (.cons (.var 1) (.cons (.var 2) (.cons (.var 3) (.cons (.var 4) .nil)))))))))
 (.goal (.iff (.lit 0) (.app (.app 300 (.cons (.var 0) (.cons (.var 1) (.cons (.var 2) (.cons (.var 3) (.cons (.var 4) .nil))))))))))
 (.goal (.iff (.lit 0) (.app (.app 300 (.cons (.var 0) (.cons (.var 1) (.cons (.var 2) (.cons (.var 3) (.cons (.var 4) .nil))))))))))
 (.ite (.eq (.var 0) (.lit 18))
 (.ite (.ite (.le (.lit 0) (.var 1)) (.le (.var 1) (.lit 9)) (.lit 0))
 (.ite (.ite (.le (.lit 0) (.var 2)) (.le (.var 2) (.lit 9)) (.lit 0))
 (.goal (.iff (.ite (.ite (.le (.lit (-32768)) (.var 3)) (.le (.var 3) (.lit 32767)) (.lit 0)) (.le (.var 4) (.lit 0)) (.lit 0)) (.app (.app 300 (.cons (.var 0) (.cons (.var 1) (.cons (.var 2) (.cons (.var 3) (.cons (.var 4) .nil)))))))))
 (.goal (.iff (.lit 0) (.app (.app 300 (.cons (.var 0) (.cons (.var 1) (.cons (.var 2) (.cons (.var 3) (.cons (.var 4) .nil))))))))))
 (.goal (.iff (.lit 0) (.app (.app 300 (.cons (.var 0) (.cons (.var 1) (.cons (.var 2) (.cons (.var 3) (.cons (.var 4) .nil))))))))))
 (.ite (.eq (.var 0) (.lit 19))
 (.ite (.eq (.var 1) (.lit 0))
 (.ite (.eq (.var 2) (.lit 0))
 (.goal (.iff (.ite (.ite (.le (.lit 0) (.var 3)) (.le (.var 3) (.lit 255)) (.lit 0)) (.le (.var 4) (.lit 0)) (.lit 0)) (.app (.app 300 (.cons (.var 0) (.cons (.var 1) (.cons (.var 2) (.cons (.var 3) (.cons (.var 4) .nil)))))))))
 (.goal (.iff (.lit 0) (.app (.app 300 (.cons (.var 0) (.cons (.var 1) (.cons (.var 2) (.cons (.var 3) (.cons (.var 4) .nil))))))))))
 (.goal (.iff (.lit 0) (.app (.app 300 (.cons (.var 0) (.cons (.var 1) (.cons (.var 2) (.cons (.var 3) (.cons (.var 4) .nil))))))))))
 (.ite (.eq (.var 0) (.lit 20))
 (.ite (.ite (.le (.lit 0) (.var 1)) (.le (.var 1) (.lit 9)) (.lit 0))
 (.ite (.eq (.var 2) (.lit 0))
 (.goal (.iff (.ite (.ite (.le (.lit 0) (.var 3)) (.le (.var 3) (.lit 255)) (.lit 0)) (.lit 1) (.lit 0)) (.app (.app 300 (.cons (.var 0) (.cons (.var 1) (.cons (.var 2) (.cons (.var 3) (.cons (.var 4) .nil)))))))))
 (.goal (.iff (.lit 0) (.app (.app 300 (.cons (.var 0) (.cons (.var 1) (.cons (.var 2) (.cons (.var 3) (.cons (.var 4) .nil))))))))))
 (.goal (.iff (.lit 0) (.app (.app 300 (.cons (.var 0) (.cons (.var 1) (.cons (.var 2) (.cons (.var 3) (.cons (.var 4) .nil))))))))))
 (.ite (.eq (.var 0) (.lit 21))
 (.ite (.ite (.le (.lit 0) (.var 1)) (.le (.var 1) (.lit 9)) (.lit 0))
 (.ite (.eq (.var 2) (.lit 0))
 (.goal (.iff (.ite (.ite (.le (.lit 0) (.var 3)) (.le (.var 3) (.lit 255)) (.lit 0)) (.lit 1) (.lit 0)) (.app (.app 300 (.cons (.var 0) (.cons (.var 1) (.cons (.var 2) (.cons (.var 3) (.cons (.var 4) .nil)))))))))
 (.goal (.iff (.lit 0) (.app (.app 300 (.cons (.var 0) (.cons (.var 1) (.cons (.var 2) (.cons (.var 3) (.cons (.var 4) .nil))))))))))
 (.goal (.iff (.lit 0) (.app (.app 300 (.cons (.var 0) (.cons (.var 1) (.cons (.var 2) (.cons (.var 3) (.cons (.var 4) .nil))))))))))
 (.ite (.eq (.var 0) (.lit 22))
 (.ite (.ite (.le (.lit 0) (.var 1)) (.le (.var 1) (.lit 9)) (.lit 0))
 (.ite (.ite (.le (.lit 0) (.var 2)) (.le (.var 2) (.lit 9)) (.lit 0))
 (.goal (.iff (.ite (.ite (.le (.lit 0) (.var 3)) (.le (.var 3) (.lit 255)) (.lit 0)) (.le (.var 4) (.lit 0)) (.lit 0)) (.app (.app 300 (.cons (.var 0) (.cons (.var 1) (.cons (.var 2) (.cons (.var 3) (.cons (.var 4) .nil)))))))))
 (.goal (.iff (.lit 0) (.app (.app 300 (.cons (.var 0) (.cons (.var 1) (.cons (.var 2) (.cons (.var 3) (.cons (.var 4) .nil))))))))))
 (.goal (.iff (.lit 0) (.app (.app 300 (.cons (.var 0) (.cons (.var 1) (.cons (.var 2) (.cons (.var 3) (.cons (.var 4) .nil))))))))))
 (.ite (.eq (.var 0) (.lit 23))
 (.ite (.eq (.var 1) (.lit 0))
 (.ite (.eq (.var 2) (.lit 0))
 (.goal (.iff (.ite (.eq (.var 3) (.lit 0)) (.le (.var 4) (.lit 7)) (.lit 0)) (.app (.app 300 (.cons (.var 0) (.cons (.var 1) (.cons (.var 2) (.cons (.var 3) (.cons (.var 4) .nil)))))))))
 (.goal (.iff (.lit 0) (.app (.app 300 (.cons (.var 0) (.cons (.var 1) (.cons (.var 2) (.cons (.var 3) (.cons (.var 4) .nil))))))))))
 (.goal (.iff (.lit 0) (.app (.app 300 (.cons (.var 0) (.cons (.var 1) (.cons (.var 2) (.cons (.var 3) (.cons (.var 4) .nil))))))))))
 (.ite (.eq (.var 0) (.lit 24))
 (.ite (.eq (.var 1) (.lit 0))
 (.ite (.eq (.var 2) (.lit 0))
 (.goal (.iff (.ite (.eq (.var 3) (.lit 0)) (.le (.var 4) (.lit 0)) (.lit 0)) (.app (.app 300 (.cons (.var 0) (.cons (.var 1) (.cons (.var 2) (.cons (.var 3) (.cons (.var 4) .nil)))))))))
 (.goal (.iff (.lit 0) (.app (.app 300 (.cons (.var 0) (.cons (.var 1) (.cons (.var 2) (.cons (.var 3) (.cons (.var 4) .nil))))))))))
 (.goal (.iff (.lit 0) (.app (.app 300 (.cons (.var 0) (.cons (.var 1) (.cons (.var 2) (.cons (.var 3) (.cons (.var 4) .nil))))))))))
 .bad))))))))))))))))))))))))))
set_option maxHeartbeats 8000000 in
theorem may43_ev : finT (gamR insK) (chk mayC.post (evFn Try.prog noC 20 30 43 (symA 0 mayC.shs) [] mayC.pre)) = may43T := by kernel_rfl
set_option maxHeartbeats 16000000 in
theorem may43_holds (ρ : Env) (hI : ρ.I = CI) (hpre : ∀ e ∈ mayC.pre, e.denB ρ = true) (hf : ρ.Fits (gamR insK)) : may43T.Holds ρ := by
  have h4 := hf 4 0 4294967295 rfl
  simp only [may43T, NT.Holds, N.denP, N.den, den_may ρ hI, E.den]
  generalize ρ.i 0 = op at *
  generalize ρ.i 1 = dst at *
  generalize ρ.i 2 = src at *
  generalize ρ.i 3 = off at *
  generalize ρ.i 4 = imm at *
  clear hpre hf hI
  refine ⟨fun h => ?_, fun h => ?_⟩
  · simp at h; simp [MayP]; omega
  simp at h
  have lo : 1 ≤ op := by omega
  have hi : op ≤ 24 := by omega
  clear h
  refine ⟨fun h => ?_, fun h => ?_⟩
  · omega
  clear h
  refine ⟨fun h => ?_, fun h => ?_⟩
  · subst h; clear lo hi; (simp [MayP, useD, useS, useM]; repeat' (first | apply And.intro | intro _)) <;> omega
  replace lo : 2 ≤ op := by omega
  clear h
  refine ⟨fun h => ?_, fun h => ?_⟩
  · subst h; clear lo hi; (simp [MayP, useD, useS, useM]; repeat' (first | apply And.intro | intro _)) <;> omega
  replace lo : 3 ≤ op := by omega
  clear h
  refine ⟨fun h => ?_, fun h => ?_⟩
  · subst h; clear lo hi; (simp [MayP, useD, useS, useM]; repeat' (first | apply And.intro | intro _)) <;> omega
  replace lo : 4 ≤ op := by omega
  clear h
  refine ⟨fun h => ?_, fun h => ?_⟩
  · subst h; clear lo hi; (simp [MayP, useD, useS, useM]; repeat' (first | apply And.intro | intro _)) <;> omega
  replace lo : 5 ≤ op := by omega
  clear h
  refine ⟨fun h => ?_, fun h => ?_⟩
  · subst h; clear lo hi; (simp [MayP, useD, useS, useM]; repeat' (first | apply And.intro | intro _)) <;> omega
  replace lo : 6 ≤ op := by omega
  clear h
  refine ⟨fun h => ?_, fun h => ?_⟩
  · subst h; clear lo hi; (simp [MayP, useD, useS, useM]; repeat' (first | apply And.intro | intro _)) <;> omega
  replace lo : 7 ≤ op := by omega
  clear h
  refine ⟨fun h => ?_, fun h => ?_⟩
  · subst h; clear lo hi; (simp [MayP, useD, useS, useM]; repeat' (first | apply And.intro | intro _)) <;> omega
  replace lo : 8 ≤ op := by omega
  clear h
  refine ⟨fun h => ?_, fun h => ?_⟩
  · subst h; clear lo hi; (simp [MayP, useD, useS, useM]; repeat' (first | apply And.intro | intro _)) <;> omega
  replace lo : 9 ≤ op := by omega
  clear h
  refine ⟨fun h => ?_, fun h => ?_⟩
  · subst h; clear lo hi; (simp [MayP, useD, useS, useM]; repeat' (first | apply And.intro | intro _)) <;> omega
  replace lo : 10 ≤ op := by omega
  clear h
  refine ⟨fun h => ?_, fun h => ?_⟩
  · subst h; clear lo hi; (simp [MayP, useD, useS, useM]; repeat' (first | apply And.intro | intro _)) <;> omega
  replace lo : 11 ≤ op := by omega
  clear h
  refine ⟨fun h => ?_, fun h => ?_⟩
  · subst h; clear lo hi; (simp [MayP, useD, useS, useM]; repeat' (first | apply And.intro | intro _)) <;> omega
  replace lo : 12 ≤ op := by omega
  clear h
  refine ⟨fun h => ?_, fun h => ?_⟩
  · subst h; clear lo hi; (simp [MayP, useD, useS, useM]; repeat' (first | apply And.intro | intro _)) <;> omega
  replace lo : 13 ≤ op := by omega
  clear h
  refine ⟨fun h => ?_, fun h => ?_⟩
  · subst h; clear lo hi; (simp [MayP, useD, useS, useM]; repeat' (first | apply And.intro | intro _)) <;> omega
  replace lo : 14 ≤ op := by omega
  clear h
  refine ⟨fun h => ?_, fun h => ?_⟩
  · subst h; clear lo hi; (simp [MayP, useD, useS, useM]; repeat' (first | apply And.intro | intro _)) <;> omega
  replace lo : 15 ≤ op := by omega
  clear h
  refine ⟨fun h => ?_, fun h => ?_⟩
  · subst h; clear lo hi; (simp [MayP, useD, useS, useM]; repeat' (first | apply And.intro | intro _)) <;> omega
  replace lo : 16 ≤ op := by omega
  clear h
  refine ⟨fun h => ?_, fun h => ?_⟩
  · subst h; clear lo hi; (simp [MayP, useD, useS, useM]; repeat' (first | apply And.intro | intro _)) <;> omega
  replace lo : 17 ≤ op := by omega
  clear h
  refine ⟨fun h => ?_, fun h => ?_⟩
  · subst h; clear lo hi; (simp [MayP, useD, useS, useM]; repeat' (first | apply And.intro | intro _)) <;> omega
  replace lo : 18 ≤ op := by omega
  clear h
  refine ⟨fun h => ?_, fun h => ?_⟩
  · subst h; clear lo hi; (simp [MayP, useD, useS, useM]; repeat' (first | apply And.intro | intro _)) <;> omega
  replace lo : 19 ≤ op := by omega
  clear h
  refine ⟨fun h => ?_, fun h => ?_⟩
  · subst h; clear lo hi; (simp [MayP, useD, useS, useM]; repeat' (first | apply And.intro | intro _)) <;> omega
  replace lo : 20 ≤ op := by omega
  clear h
  refine ⟨fun h => ?_, fun h => ?_⟩
  · subst h; clear lo hi; (simp [MayP, useD, useS, useM]; repeat' (first | apply And.intro | intro _)) <;> omega
  replace lo : 21 ≤ op := by omega
  clear h
  refine ⟨fun h => ?_, fun h => ?_⟩
  · subst h; clear lo hi; (simp [MayP, useD, useS, useM]; repeat' (first | apply And.intro | intro _)) <;> omega
  replace lo : 22 ≤ op := by omega
  clear h
  refine ⟨fun h => ?_, fun h => ?_⟩
  · subst h; clear lo hi; (simp [MayP, useD, useS, useM]; repeat' (first | apply And.intro | intro _)) <;> omega
  replace lo : 23 ≤ op := by omega
  clear h
  refine ⟨fun h => ?_, fun h => ?_⟩
  · subst h; clear lo hi; (simp [MayP, useD, useS, useM]; repeat' (first | apply And.intro | intro _)) <;> omega
  replace lo : 24 ≤ op := by omega
  clear h
  refine ⟨fun h => ?_, fun h => ?_⟩
  · subst h; clear lo hi; (simp [MayP, useD, useS, useM]; repeat' (first | apply And.intro | intro _)) <;> omega
  replace lo : 25 ≤ op := by omega
  clear h
  omega

theorem may43_ok : mayC.Ok Try.prog CI 43 := PC.of_tree (fun _ _ _ _ h => by cases h) (by kernel_rfl) may43_ev (fun _ _ h => fits_pre h (fun _ h => h)) may43_holds

def may13T : NT :=
 (.ite (.eq (.var 0) (.lit 1))
 (.ite (.ite (.not (.eq (.var 2) (.lit 0))) (.lit 1) (.not (.eq (.var 3) (.lit 0))))
 (.goal (.iff (.lit 0) (.app (.app 300 (.cons (.var 0) (.cons (.var 1) (.cons (.var 2) (.cons (.var 3) (.cons (.var 4) .nil)))))))))
 (.ite (.ite (.ite (.ite (.lt (.var 1) (.lit 0)) (.lit 1) (.lt (.lit 9) (.var 1))) (.lit 1) (.lt (.var 2) (.lit 0))) (.lit 1) (.lt (.lit 9) (.var 2)))
 (.goal (.iff (.lit 0) (.app (.app 300 (.cons (.var 0) (.cons (.var 1) (.cons (.var 2) (.cons (.var 3) (.cons (.var 4) .nil)))))))))
 (.goal (.iff (.lit 1) (.app (.app 300 (.cons (.var 0) (.cons (.var 1) (.cons (.var 2) (.cons (.var 3) (.cons (.var 4) .nil)))))))))))
 (.ite (.eq (.var 0) (.lit 3))
 (.ite (.ite (.not (.eq (.var 2) (.lit 0))) (.lit 1) (.not (.eq (.var 3) (.lit 0))))
 (.goal (.iff (.lit 0) (.app (.app 300 (.cons (.var 0) (.cons (.var 1) (.cons (.var 2) (.cons (.var 3) (.cons (.var 4) .nil)))))))))
 (.ite (.ite (.ite (.ite (.lt (.var 1) (.lit 0)) (.lit 1) (.lt (.lit 9) (.var 1))) (.lit 1) (.lt (.var 2) (.lit 0))) (.lit 1) (.lt (.lit 9) (.var 2)))
 (.goal (.iff (.lit 0) (.app (.app 300 (.cons (.var 0) (.cons (.var 1) (.cons (.var 2) (.cons (.var 3) (.cons (.var 4) .nil)))))))))
 (.goal (.iff (.lit 1) (.app (.app 300 (.cons (.var 0) (.cons (.var 1) (.cons (.var 2) (.cons (.var 3) (.cons (.var 4) .nil)))))))))))
 (.ite (.eq (.var 0) (.lit 6))
 (.ite (.ite (.not (.eq (.var 2) (.lit 0))) (.lit 1) (.not (.eq (.var 3) (.lit 0))))
 (.goal (.iff (.lit 0) (.app (.app 300 (.cons (.var 0) (.cons (.var 1) (.cons (.var 2) (.cons (.var 3) (.cons (.var 4) .nil)))))))))
 (.ite (.ite (.ite (.ite (.lt (.var 1) (.lit 0)) (.lit 1) (.lt (.lit 9) (.var 1))) (.lit 1) (.lt (.var 2) (.lit 0))) (.lit 1) (.lt (.lit 9) (.var 2)))
 (.goal (.iff (.lit 0) (.app (.app 300 (.cons (.var 0) (.cons (.var 1) (.cons (.var 2) (.cons (.var 3) (.cons (.var 4) .nil)))))))))
 (.goal (.iff (.lit 1) (.app (.app 300 (.cons (.var 0) (.cons (.var 1) (.cons (.var 2) (.cons (.var 3) (.cons (.var 4) .nil)))))))))))
 (.ite (.eq (.var 0) (.lit 8))
 (.ite (.ite (.not (.eq (.var 2) (.lit 0))) (.lit 1) (.not (.eq (.var 3) (.lit 0))))
 (.goal (.iff (.lit 0) (.app (.app 300 (.cons (.var 0) (.cons (.var 1) (.cons (.var 2) (.cons (.var 3) (.cons (.var 4) .nil)))))))))
 (.ite (.ite (.ite (.ite (.lt (.var 1) (.lit 0)) (.lit 1) (.lt (.lit 9) (.var 1))) (.lit 1) (.lt (.var 2) (.lit 0))) (.lit 1) (.lt (.lit 9) (.var 2)))
 (.goal (.iff (.lit 0) (.app (.app 300 (.cons (.var 0) (.cons (.var 1) (.cons (.var 2) (.cons (.var 3) (.cons (.var 4) .nil)))))))))
 (.goal (.iff (.lit 1) (.app (.app 300 (.cons (.var 0) (.cons (.var 1) (.cons (.var 2) (.cons (.var 3) (.cons (.var 4) .nil)))))))))))
 (.ite (.eq (.var 0) (.lit 12))
 (.ite (.ite (.not (.eq (.var 2) (.lit 0))) (.lit 1) (.not (.eq (.var 3) (.lit 0))))
 (.goal (.iff (.lit 0) (.app (.app 300 (.cons (.var 0) (.cons (.var 1) (.cons (.var 2) (.cons (.var 3) (.cons (.var 4) .nil)))))))))
 (.ite (.ite (.ite (.ite (.lt (.var 1) (.lit 0)) (.lit 1) (.lt (.lit 9) (.var 1))) (.lit 1) (.lt (.var 2) (.lit 0))) (.lit 1) (.lt (.lit 9) (.var 2)))
 (.goal (.iff (.lit 0) (.app (.app 300 (.cons (.var 0) (.cons (.var 1) (.cons (.var 2) (.cons (.var 3) (.cons (.var 4) .nil)))))))))
 (.ite (.lt (.lit 31) (.var 4))
 (.goal (.iff (.lit 0) (.app (.app 300 (.cons (.var 0) (.cons (.var 1) (.cons (.var 2) (.cons (.var 3) (.cons (.var 4) .nil)))))))))
 (.goal (.iff (.lit 1) (.app (.app 300 (.cons (.var 0) (.cons (.var 1) (.cons (.var 2) (.cons (.var 3) (.cons (.var 4) .nil))))))))))))
 (.ite (.eq (.var 0) (.lit 13))
 (.ite (.ite (.not (.eq (.var 2) (.lit 0))) (.lit 1) (.not (.eq (.var 3) (.lit 0))))
 (.goal (.iff (.lit 0) (.app (.app 300 (.cons (.var 0) (.cons (.var 1) (.cons (.var 2) (.cons (.var 3) (.cons (.var 4) .nil)))))))))
 (.ite (.ite (.ite (.ite (.lt (.var 1) (.lit 0)) (.lit 1) (.lt (.lit 9) (.var 1))) (.lit 1) (.lt (.var 2) (.lit 0))) (.lit 1) (.lt (.lit 9) (.var 2)))
 (.goal (.iff (.lit 0) (.app (.app 300 (.cons (.var 0) (.cons (.var 1) (.cons (.var 2) (.cons (.var 3) (.cons (.var 4) .nil)))))))))
 (.ite (.lt (.lit 31) (.var 4))
 (.goal (.iff (.lit 0) (.app (.app 300 (.cons (.var 0) (.cons (.var 1) (.cons (.var 2) (.cons (.var 3) (.cons (.var 4) .nil)))))))))
 (.goal (.iff (.lit 1) (.app (.app 300 (.cons (.var 0) (.cons (.var 1) (.cons (.var 2) (.cons (.var 3) (.cons (.var 4) .nil))))))))))))
 (.ite (.eq (.var 0) (.lit 2))
 (.ite (.ite (.not (.eq (.var 3) (.lit 0))) (.lit 1) (.not (.eq (.var 4) (.lit 0))))
 (.goal (.iff (.lit 0) (.app (.app 300 (.cons (.var 0) (.cons (.var 1) (.cons (.var 2) (.cons (.var 3) (.cons (.var 4) .nil)))))))))
 (.ite (.ite (.ite (.ite (.lt (.var 1) (.lit 0)) (.lit 1) (.lt (.lit 9) (.var 1))) (.lit 1) (.lt (.var 2) (.lit 0))) (.lit 1) (.lt (.lit 9) (.var 2)))
 (.goal (.iff (.lit 0) (.app (.app 300 (.cons (.var 0) (.cons (.var 1) (.cons (.var 2) (.cons (.var 3) (.cons (.var 4) .nil)))))))))
 (.goal (.iff (.lit 1) (.app (.app 300 (.cons (.var 0) (.cons (.var 1) (.cons (.var 2) (.cons (.var 3) (.cons (.var 4) .nil)))))))))))
 (.ite (.eq (.var 0) (.lit 4))
 (.ite (.ite (.not (.eq (.var 3) (.lit 0))) (.lit 1) (.not (.eq (.var 4) (.lit 0))))
 (.goal (.iff (.lit 0) (.app (.app 300 (.cons (.var 0) (.cons (.var 1) (.cons (.var 2) (.cons (.var 3) (.cons (.var 4) .nil)))))))))
 (.ite (.ite (.ite (.ite (.lt (.var 1) (.lit 0)) (.lit 1) (.lt (.lit 9) (.var 1))) (.lit 1) (.lt (.var 2) (.lit 0))) (.lit 1) (.lt (.lit 9) (.var 2)))
 (.goal (.iff (.lit 0) (.app (.app 300 (.cons (.var 0) (.cons (.var 1) (.cons (.var 2) (.cons (.var 3) (.cons (.var 4) .nil)))))))))
 (.goal (.iff (.lit 1) (.app (.app 300 (.cons (.var 0) (.cons (.var 1) (.cons (.var 2) (.cons (.var 3) (.cons (.var 4) .nil)))))))))))
 (.ite (.eq (.var 0) (.lit 5))
 (.ite (.ite (.not (.eq (.var 3) (.lit 0))) (.lit 1) (.not (.eq (.var 4) (.lit 0))))
 (.goal (.iff (.lit 0) (.app (.app 300 (.cons (.var 0) (.cons (.var 1) (.cons (.var 2) (.cons (.var 3) (.cons (.var 4) .nil)))))))))
 (.ite (.ite (.ite (.ite (.lt (.var 1) (.lit 0)) (.lit 1) (.lt (.lit 9) (.var 1))) (.lit 1) (.lt (.var 2) (.lit 0))) (.lit 1) (.lt (.lit 9) (.var 2)))
 (.goal (.iff (.lit 0) (.app (.app 300 (.cons (.var 0) (.cons (.var 1) (.cons (.var 2) (.cons (.var 3) (.cons (.var 4) .nil)))))))))
 (.goal (.iff (.lit 1) (.app (.app 300 (.cons (.var 0) (.cons (.var 1) (.cons (.var 2) (.cons (.var 3) (.cons (.var 4) .nil)))))))))))
 (.ite (.eq (.var 0) (.lit 7))
 (.ite (.ite (.not (.eq (.var 3) (.lit 0))) (.lit 1) (.not (.eq (.var 4) (.lit 0))))
 (.goal (.iff (.lit 0) (.app (.app 300 (.cons (.var 0) (.cons (.var 1) (.cons (.var 2) (.cons (.var 3) (.cons (.var 4) .nil)))))))))
 (.ite (.ite (.ite (.ite (.lt (.var 1) (.lit 0)) (.lit 1) (.lt (.lit 9) (.var 1))) (.lit 1) (.lt (.var 2) (.lit 0))) (.lit 1) (.lt (.lit 9) (.var 2)))
 (.goal (.iff (.lit 0) (.app (.app 300 (.cons (.var 0) (.cons (.var 1) (.cons (.var 2) (.cons (.var 3) (.cons (.var 4) .nil)))))))))
 (.goal (.iff (.lit 1) (.app (.app 300 (.cons (.var 0) (.cons (.var 1) (.cons (.var 2) (.cons (.var 3) (.cons (.var 4) .nil)))))))))))
 (.ite (.eq (.var 0) (.lit 9))
 (.ite (.ite (.not (.eq (.var 3) (.lit 0))) (.lit 1) (.not (.eq (.var 4) (.lit 0))))
 (.goal (.iff (.lit 0) (.app (.app 300 (.cons (.var 0) (.cons (.var 1) (.cons (.var 2) (.cons (.var 3) (.cons (.var 4) .nil)))))))))
 (.ite (.ite (.ite (.ite (.lt (.var 1) (.lit 0)) (.lit 1) (.lt (.lit 9) (.var 1))) (.lit 1) (.lt (.var 2) (.lit 0))) (.lit 1) (.lt (.lit 9) (.var 2)))
 (.goal (.iff (.lit 0) (.app (.app 300 (.cons (.var 0) (.cons (.var 1) (.cons (.var 2) (.cons (.var 3) (.cons (.var 4) .nil)))))))))
 (.goal (.iff (.lit 1) (.app (.app 300 (.cons (.var 0) (.cons (.var 1) (.cons (.var 2) (.cons (.var 3) (.cons (.var 4) .nil)))))))))))
 (.ite (.eq (.var 0) (.lit 10))
 (.ite (.ite (.not (.eq (.var 3) (.lit 0))) (.lit 1) (.not (.eq (.var 4) (.lit 0))))
 (.goal (.iff (.lit 0) (.app (.app 300 (.cons (.var 0) (.cons (.var 1) (.cons (.var 2) (.cons (.var 3) (.cons (.var 4) .nil)))))))))
 (.ite (.ite (.ite (.ite (.lt (.var 1) (.lit 0)) (.lit 1) (.lt (.lit 9) (.var 1))) (.lit 1) (.lt (.var 2) (.lit 0))) (.lit 1) (.lt (.lit 9) (.var 2)))
 (.goal (.iff (.lit 0) (.app (.app 300 (.cons (.var 0) (.cons (.var 1) (.cons (.var 2) (.cons (.var 3) (.cons (.var 4) .nil)))))))))
 (.goal (.iff (.lit 1) (.app (.app 300 (.cons (.var 0) (.cons (.var 1) (.cons (.var 2) (.cons (.var 3) (.cons (.var 4) .nil)))))))))))
 (.ite (.eq (.var 0) (.lit 11))
 (.ite (.ite (.not (.eq (.var 3) (.lit 0))) (.lit 1) (.not (.eq (.var 4) (.lit 0))))
 (.goal (.iff (.lit 0) (.app (.app 300 (.cons (.var 0) (.cons (.var 1) (.cons (.var 2) (.cons (.var 3) (.cons (.var 4) .nil)))))))))
 (.ite (.ite (.ite (.ite (.lt (.var 1) (.lit 0)) (.lit 1) (.lt (.lit 9) (.var 1))) (.lit 1) (.lt (.var 2) (.lit 0))) (.lit 1) (.lt (.lit 9) (.var 2)))
 (.goal (.iff (.lit 0) (.app (.app 300 (.cons (.var 0) (.cons (.var 1) (.cons (.var 2) (.cons (.var 3) (.cons (.var 4) .nil)))))))))
 (.goal (.iff (.lit 1) (.app (.app 300 (.cons (.var 0) (.cons (.var 1) (.cons (.var 2) (.cons (.var 3) (.cons (.var 4) .nil)))))))))))
 (.ite (.eq (.var 0) (.lit 14))
 (.ite (.ite (.not (.eq (.var 3) (.lit 0))) (.lit 1) (.not (.eq (.var 4) (.lit 0))))
 (.goal (.iff (.lit 0) (.app (.app 300 (.cons (.var 0) (.cons (.var 1) (.cons (.var 2) (.cons (.var 3) (.cons (.var 4) .nil)))))))))
 (.ite (.ite (.ite (.ite (.lt (.var 1) (.lit 0)) (.lit 1) (.lt (.lit 9) (.var 1))) (.lit 1) (.lt (.var 2) (.lit 0))) (.lit 1) (.lt (.lit 9) (.var 2)))
 (.goal (.iff (.lit 0) (.app (.app 300 (.cons (.var 0) (.cons (.var 1) (.cons (.var 2) (.cons (.var 3) (.cons (.var 4) .nil)))))))))
 (.goal (.iff (.lit 1) (.app (.app 300 (.cons (.var 0) (.cons (.var 1) (.cons (.var 2) (.cons (.var 3) (.cons (.var 4) .nil)))))))))))
 (.ite (.eq (.var 0) (.lit 15))
 (.ite (.ite (.not (.eq (.var 3) (.lit 0))) (.lit 1) (.not (.eq (.var 4) (.lit 0))))
 (.goal (.iff (.lit 0) (.app (.app 300 (.cons (.var 0) (.cons (.var 1) (.cons (.var 2) (.cons (.var 3) (.cons (.var 4) .nil)))))))))
 (.ite (.ite (.ite (.ite (.lt (.var 1) (.lit 0)) (.lit 1) (.lt (.lit 9) (.var 1))) (.lit 1) (.lt (.var 2) (.lit 0))) (.lit 1) (.lt (.lit 9) (.var 2)))
 (.goal (.iff (.lit 0) (.app (.app 300 (.cons (.var 0) (.cons (.var 1) (.cons (.var 2) (.cons (.var 3) (.cons (.var 4) .nil)))))))))
 (.goal (.iff (.lit 1) (.app (.app 300 (.cons (.var 0) (.cons (.var 1) (.cons (.var 2) (.cons (.var 3) (.cons (.var 4) .nil)))))))))))
 (.ite (.eq (.var 0) (.lit 16))
 (.ite (.not (.eq (.var 4) (.lit 0)))
 (.goal (.iff (.lit 0) (.app (.app 300 (.cons (.var 0) (.cons (.var 1) (.cons (.var 2) (.cons (.var 3) (.cons (.var 4) .nil)))))))))
 (.ite (.ite (.ite (.ite (.lt (.var 1) (.lit 0)) (.lit 1) (.lt (.lit 9) (.var 1))) (.lit 1) (.lt (.var 2) (.lit 0))) (.lit 1) (.lt (.lit 9) (.var 2)))
 (.goal (.iff (.lit 0) (.app (.app 300 (.cons (.var 0) (.cons (.var 1) (.cons (.var 2) (.cons (.var 3) (.cons (.var 4) .nil)))))))))
 (.ite (.ite (.lt (.var 3) (.lit (-32768))) (.lit 1) (.lt (.lit 32767) (.var 3)))
 (.goal (.iff (.lit 0) (.app (.app 300 (.cons (.var 0) (.cons (.var 1) (.cons (.var 2) (.cons (.var 3) (.cons (.var 4) .nil)))))))))
 (.goal (.iff (.lit 1) (.app (.app 300 (.cons (.var 0) (.cons (.var 1) (.cons (.var 2) (.cons (.var 3) (.cons (.var 4) .nil))))))))))))
 (.ite (.eq (.var 0) (.lit 17))
 (.ite (.not (.eq (.var 4) (.lit 0)))
 (.goal (.iff (.lit 0) (.app (.app 300 (.cons (.var 0) (.cons (.var 1) (.cons (.var 2) (.cons (.var 3) (.cons (.var 4) .nil)))))))))
 (.ite (.ite (.ite (.ite (.lt (.var 1) (.lit 0)) (.lit 1) (.lt (.lit 9) (.var 1))) (.lit 1) (.lt (.var 2) (.lit 0))) (.lit 1) (.lt (.lit 9) (.var 2)))
 (.goal (.iff (.lit 0) (.app (.app 300 (.cons (.var 0) (.cons (.var 1) (.cons (.var 2) (.cons (.var 3) (.cons (.var 4) .nil)))))))))
 (.ite (.ite (.lt (.var 3) (.lit (-32768))) (.lit 1) (.lt (.lit 32767) (.var 3)))
 (.goal (.iff (.lit 0) (.app (.app 300 (.cons (.var 0) (.cons (.var 1) (.cons (.var 2) (.cons (.var 3) (.cons (.var 4) .nil)))))))))
 (.goal (.iff (.lit 1) (.app (.app 300 (.cons (.var 0) (.cons (.var 1) (.cons (.var 2) (.cons (.var 3) (.cons (.var 4) .nil))))))))))))
 (.ite (.eq (.var 0) (.lit 18))
 (.ite (.not (.eq (.var 4) (.lit 0)))
 (.goal (.iff (.lit 0) (.app (.app 300 (.cons (.var 0) (.cons (.var 1) (.cons (.var 2) (.cons (.var 3) (.cons (.var 4) .nil)))))))))
 (.ite (.ite (.ite (.ite (.lt (.var 1) (.lit 0)) (.lit 1) (.lt (.lit 9) (.var 1))) (.lit 1) (.lt (.var 2) (.lit 0))) (.lit 1) (.lt (.lit 9) (.var 2)))
 (.goal (.iff (.lit 0) (.app (.app 300 (.cons (.var 0) (.cons (.var 1) (.cons (.var 2) (.cons (.var 3) (.cons (.var 4) .nil)))))))))
 (.ite (.ite (.lt (.var 3) (.lit (-32768))) (.lit 1) (.lt (.lit 32767) (.var 3)))
 (.goal (.iff (.lit 0) (.app (.app 300 (.cons (.var 0) (.cons (.var 1) (.cons (.var 2) (.cons (.var 3) (.cons (.var 4) .nil)))))))))
 (.goal (.iff (.lit 1) (.app (.app 300 (.cons (.var 0) (.cons (.var 1) (.cons (.var 2) (.cons (.var 3) (.cons (.var 4) .nil))))))))))))
 (.ite (.eq (.var 0) (.lit 22))
 (.ite (.not (.eq (.var 4) (.lit 0)))
 (.goal (.iff (.lit 0) (.app (.app 300 (.cons (.var 0) (.cons (.var 1) (.cons (.var 2) (.cons (.var 3) (.cons (.var 4) .nil)))))))))
 (.ite (.ite (.ite (.ite (.lt (.var 1) (.lit 0)) (.lit 1) (.lt (.lit 9) (.var 1))) (.lit 1) (.lt (.var 2) (.lit 0))) (.lit 1) (.lt (.lit 9) (.var 2)))
 (.goal (.iff (.lit 0) (.app (.app 300 (.cons (.var 0) (.cons (.var 1) (.cons (.var 2) (.cons (.var 3) (.cons (.var 4) .nil)))))))))
 (.ite (.ite (.lt (.var 3) (.lit 0)) (.lit 1) (.lt (.lit 255) (.var 3)))
 (.goal (.iff (.lit 0) (.app (.app 300 (.cons (.var 0) (.cons (.var 1) (.cons (.var 2) (.cons (.var 3) (.cons (.var 4) .nil)))))))))
 (.goal (.iff (.lit 1) (.app (.app 300 (.cons (.var 0) (.cons (.var 1) (.cons (.var 2) (.cons (.var 3) (.cons (.var 4) .nil))))))))))))
 (.ite (.eq (.var 0) (.lit 19))
 (.ite (.ite (.ite (.not (.eq (.var 1) (.lit 0))) (.lit 1) (.not (.eq (.var 2) (.lit 0)))) (.lit 1) (.not (.eq (.var 4) (.lit 0))))
 (.goal (.iff (.lit 0) (.app (.app 300 (.cons (.var 0) (.cons (.var 1) (.cons (.var 2) (.cons (.var 3) (.cons (.var 4) .nil)))))))))
 (.ite (.ite (.lt (.var 3) (.lit 0)) (.lit 1) (.lt (.lit 255) (.var 3)))
 (.goal (.iff (.lit 0) (.app (.app 300 (.cons (.var 0) (.cons (.var 1) (.cons (.var 2) (.cons (.var 3) (.cons (.var 4) .nil)))))))))
 (.goal (.iff (.lit 1) (.app (.app 300 (.cons (.var 0) (.cons (.var 1) (.cons (.var 2) (.cons (.var 3) (.cons (.var 4) .nil)))))))))))
 (.ite (.eq (.var 0) (.lit 20))
 (.ite (.not (.eq (.var 2) (.lit 0)))
 (.goal (.iff (.lit 0) (.app (.app 300 (.cons (.var 0) (.cons (.var 1) (.cons (.var 2) (.cons (.var 3) (.cons (.var 4) .nil)))))))))
 (.ite (.ite (.ite (.ite (.lt (.var 1) (.lit 0)) (.lit 1) (.lt (.lit 9) (.var 1))) (.lit 1) (.lt (.var 2) (.lit 0))) (.lit 1) (.lt (.lit 9) (.var 2)))
 (.goal (.iff (.lit 0) (.app (.app 300 (.cons (.var 0) (.cons (.var 1) (.cons (.var 2) (.cons (.var 3) (.cons (.var 4) .nil)))))))))
 (.ite (.ite (.lt (.var 3) (.lit 0)) (.lit 1) (.lt (.lit 255) (.var 3)))
 (.goal (.iff (.lit 0) (.app (.app 300 (.cons (.var 0) (.cons (.var 1) (.cons (.var 2) (.cons (.var 3) (.cons (.var 4) .nil)))))))))
 (.goal (.iff (.lit 1) (.app (.app 300 (.cons (.var 0) (.cons (.var 1) (.cons (.var 2) (.cons (.var 3) (.cons (.var 4) .nil))))))))))))
 (.ite (.eq (.var 0) (.lit 21))
 (.ite (.not (.eq (.var 2) (.lit 0)))
 (.goal (.iff (.lit 0) (.app (.app 300 (.cons (.var 0) (.cons (.var 1) (.cons (.var 2) (.cons (.var 3) (.cons (.var 4) .nil)))))))))
 (.ite (.ite (.ite (.ite (.lt (.var 1) (.lit 0)) (.lit 1) (.lt (.lit 9) (.var 1))) (.lit 1) (.lt (.var 2) (.lit 0))) (.lit 1) (.lt (.lit 9) (.var 2)))
 (.goal (.iff (.lit 0) (.app (.app 300 (.cons (.var 0) (.cons (.var 1) (.cons (.var 2) (.cons (.var 3) (.cons (.var 4) .nil)))))))))
 (.ite (.ite (.lt (.var 3) (.lit 0)) (.lit 1) (.lt (.lit 255) (.var 3)))
 (.goal (.iff (.lit 0) (.app (.app 300 (.cons (.var 0) (.cons (.var 1) (.cons (.var 2) (.cons (.var 3) (.cons (.var 4) .nil)))))))))
 (.goal (.iff (.lit 1) (.app (.app 300 (.cons (.var 0) (.cons (.var 1) (.cons (.var 2) (.cons (.var 3) (.cons (.var 4) .nil))))))))))))
 (.ite (.eq (.var 0) (.lit 23))
 (.ite (.ite (.ite (.not (.eq (.var 1) (.lit 0))) (.lit 1) (.not (.eq (.var 2) (.lit 0)))) (.lit 1) (.not (.eq (.var 3) (.lit 0))))
 (.goal (.iff (.lit 0) (.app (.app 300 (.cons (.var 0) (.cons (.var 1) (.cons (.var 2) (.cons (.var 3) (.cons (.var 4) .nil)))))))))
 (.goal (.iff (.lt (.var 4) (.lit 8)) (.app (.app 300 (.cons (.var 0) (.cons (.var 1) (.cons (.var 2) (.cons (.var 3) (.cons (.var 4) .nil))))))))))
 (.ite (.eq (.var 0) (.lit 24))
 (.ite (.ite (.ite (.ite (.not (.eq (.var 1) (.lit 0))) (.lit 1) (.not (.eq (.var 2) (.lit 0)))) (.lit 1) (.not (.eq (.var 3) (.lit 0)))) (.lit 1) (.not (.eq (.var 4) (.lit 0))))
 (.goal (.iff (.lit 0) (.app (.app 300 (.cons (.var 0) (.cons (.var 1) (.cons (.var 2) (.cons (.var 3) (.cons (.var 4) .nil)))))))))
 (.goal (.iff (.lit 1) (.app (.app 300 (.cons (.var 0) (.cons (.var 1) (.cons (.var 2) (.cons (.var 3) (.cons (.var 4) .nil))))))))))
 (.goal (.iff (.lit 0) (.app (.app 300 (.cons (.var 0) (.cons (.var 1) (.cons (.var 2) (.cons (.var 3) (.cons (.var 4) .nil)))))))))))))))))))))))))))))))))
set_option maxHeartbeats 8000000 in
theorem may13_ev : finT (gamR insK) (chk mayC.post (evFn Try.prog noC 20 30 13 (symA 0 mayC.shs) [] mayC.pre)) = may13T := by kernel_rfl
set_option maxHeartbeats 16000000 in
theorem may13_holds (ρ : Env) (hI : ρ.I = CI) (hpre : ∀ e ∈ mayC.pre, e.denB ρ = true) (hf : ρ.Fits (gamR insK)) : may13T.Holds ρ := by
  have h4 := hf 4 0 4294967295 rfl
  simp only [may13T, NT.Holds, N.denP, N.den, den_may ρ hI, E.den]
  generalize ρ.i 0 = op at *
  generalize ρ.i 1 = dst at *
  generalize ρ.i 2 = src at *
  generalize ρ.i 3 = off at *
  generalize ρ.i 4 = imm at *
  clear hpre hf hI
  refine ⟨fun h => ?_, fun h1 => ?_⟩
  · subst h; clear h4; (simp [MayP, useD, useS, useM]; (repeat' (first | apply And.intro | intro _))) <;> omega
  refine ⟨fun h => ?_, fun h3 => ?_⟩
  · subst h; clear h4; (simp [MayP, useD, useS, useM]; (repeat' (first | apply And.intro | intro _))) <;> omega
  refine ⟨fun h => ?_, fun h6 => ?_⟩
  · subst h; clear h4; (simp [MayP, useD, useS, useM]; (repeat' (first | apply And.intro | intro _))) <;> omega
  refine ⟨fun h => ?_, fun h8 => ?_⟩
  · subst h; clear h4; (simp [MayP, useD, useS, useM]; (repeat' (first | apply And.intro | intro _))) <;> omega
  refine ⟨fun h => ?_, fun h12 => ?_⟩
  · subst h; clear h4; (simp [MayP, useD, useS, useM]; (repeat' (first | apply And.intro | intro _))) <;> omega
  refine ⟨fun h => ?_, fun h13 => ?_⟩
  · subst h; clear h4; (simp [MayP, useD, useS, useM]; (repeat' (first | apply And.intro | intro _))) <;> omega
  refine ⟨fun h => ?_, fun h2 => ?_⟩
  · subst h; clear h4; (simp [MayP, useD, useS, useM]; (repeat' (first | apply And.intro | intro _))) <;> omega
  refine ⟨fun h => ?_, fun h4 => ?_⟩
  · subst h; clear h4; (simp [MayP, useD, useS, useM]; (repeat' (first | apply And.intro | intro _))) <;> omega
  refine ⟨fun h => ?_, fun h5 => ?_⟩
  · subst h; clear h4; (simp [MayP, useD, useS, useM]; (repeat' (first | apply And.intro | intro _))) <;> omega
  refine ⟨fun h => ?_, fun h7 => ?_⟩
  · subst h; clear h4; (simp [MayP, useD, useS, useM]; (repeat' (first | apply And.intro | intro _))) <;> omega
  refine ⟨fun h => ?_, fun h9 => ?_⟩
  · subst h; clear h4; (simp [MayP, useD, useS, useM]; (repeat' (first | apply And.intro | intro _))) <;> omega
  refine ⟨fun h => ?_, fun h10 => ?_⟩
  · subst h; clear h4; (simp [MayP, useD, useS, useM]; (repeat' (first | apply And.intro | intro _))) <;> omega
  refine ⟨fun h => ?_, fun h11 => ?_⟩
  · subst h; clear h4; (simp [MayP, useD, useS, useM]; (repeat' (first | apply And.intro | intro _))) <;> omega
  refine ⟨fun h => ?_, fun h14 => ?_⟩
  · subst h; clear h4; (simp [MayP, useD, useS, useM]; (repeat' (first | apply And.intro | intro _))) <;> omega
  refine ⟨fun h => ?_, fun h15 => ?_⟩
  · subst h; clear h4; (simp [MayP, useD, useS, useM]; (repeat' (first | apply And.intro | intro _))) <;> omega
  refine ⟨fun h => ?_, fun h16 => ?_⟩
  · subst h; clear h4; (simp [MayP, useD, useS, useM]; (repeat' (first | apply And.intro | intro _))) <;> omega
  refine ⟨fun h => ?_, fun h17 => ?_⟩
  · subst h; clear h4; (simp [MayP, useD, useS, useM]; (repeat' (first | apply And.intro | intro _))) <;> omega
  refine ⟨fun h => ?_, fun h18 => ?_⟩
  · subst h; clear h4; (simp [MayP, useD, useS, useM]; (repeat' (first | apply And.intro | intro _))) <;> omega
  refine ⟨fun h => ?_, fun h22 => ?_⟩
  · subst h; clear h4; (simp [MayP, useD, useS, useM]; (repeat' (first | apply And.intro | intro _))) <;> omega
  refine ⟨fun h => ?_, fun h19 => ?_⟩
  · subst h; clear h4; (simp [MayP, useD, useS, useM]; (repeat' (first | apply And.intro | intro _))) <;> omega
  refine ⟨fun h => ?_, fun h20 => ?_⟩
  · subst h; clear h4; (simp [MayP, useD, useS, useM]; (repeat' (first | apply And.intro | intro _))) <;> omega
  refine ⟨fun h => ?_, fun h21 => ?_⟩
  · subst h; clear h4; (simp [MayP, useD, useS, useM]; (repeat' (first | apply And.intro | intro _))) <;> omega
  refine ⟨fun h => ?_, fun h23 => ?_⟩
  · subst h; clear h4; (simp [MayP, useD, useS, useM]; (repeat' (first | apply And.intro | intro _))) <;> omega
  refine ⟨fun h => ?_, fun h24 => ?_⟩
  · subst h; clear h4; (simp [MayP, useD, useS, useM]; (repeat' (first | apply And.intro | intro _))) <;> omega
  have hop : op < 1 ∨ 24 < op := by
    by_cases h : op < 1
    · exact .inl h
    replace h := Int.not_lt.1 h
    by_cases h' : 24 < op
    · exact .inr h'
    replace h : 2 ≤ op := lt_of h h1
    replace h : 3 ≤ op := lt_of h h2
    replace h : 4 ≤ op := lt_of h h3
    replace h : 5 ≤ op := lt_of h h4
    replace h : 6 ≤ op := lt_of h h5
    replace h : 7 ≤ op := lt_of h h6
    replace h : 8 ≤ op := lt_of h h7
    replace h : 9 ≤ op := lt_of h h8
    replace h : 10 ≤ op := lt_of h h9
    replace h : 11 ≤ op := lt_of h h10
    replace h : 12 ≤ op := lt_of h h11
    replace h : 13 ≤ op := lt_of h h12
    replace h : 14 ≤ op := lt_of h h13
    replace h : 15 ≤ op := lt_of h h14
    replace h : 16 ≤ op := lt_of h h15
    replace h : 17 ≤ op := lt_of h h16
    replace h : 18 ≤ op := lt_of h h17
    replace h : 19 ≤ op := lt_of h h18
    replace h : 20 ≤ op := lt_of h h19
    replace h : 21 ≤ op := lt_of h h20
    replace h : 22 ≤ op := lt_of h h21
    replace h : 23 ≤ op := lt_of h h22
    replace h : 24 ≤ op := lt_of h h23
    replace h : 25 ≤ op := lt_of h h24
    omega
  clear h1 h3 h6 h8 h12 h13 h2 h4 h5 h7 h9 h10 h11 h14 h15 h16 h17 h18 h22 h19 h20 h21 h23 h24
  simp only [MayP]
  constructor
  · intro h; simp at h
  · intro h; omega

theorem may13_ok : mayC.Ok Try.prog CI 13 := PC.of_tree (fun _ _ _ _ h => by cases h) (by kernel_rfl) may13_ev (fun _ _ h => fits_pre h (fun _ h => h)) may13_holds

end Go.Proofs.Ytpamdmikdnoplaa