/- The law CheckJumps returns true whatever the input, and each argument reads behind the call as it read before; no condition. -/
import Derived.Test.YtpamdmikdnoplaaCkKnown
import Derived.Test.YtpamdmikdnoplaaCkWord
import Derived.Test.YtpamdmikdnoplaaRows
import Derived.WalkKit
import Derived.ProofKit
import Derived.OpenShut
import Derived.ShutString
import Derived.ChangeOld
import Derived.Below
import Derived.Carry
namespace Go.Proofs.Ytpamdmikdnoplaa.CheckJumps
open Go.ChangeShapes Go.WideShapes Go.ChangeAt Go.RowKit Go.Sx
set_option linter.unusedVariables false
set_option maxRecDepth 100000

theorem own : ownKnob Try.prog.godebug = none := by kernel_rfl
theorem laidOut : laidOutB Try.prog = true := by kernel_rfl
def shs : List Sh := [.row [none, some .u32, some .u32], .row [none, some .u32, some .u32], .row [some .u32, some .u32, some .u32]]
def asked : NT :=
 (.ite (.ite (.ite (.ite (.not (.bvar 0)) (.lit 1) (.not (.bvar 3))) (.lit 1) (.lt (.var 2) (.var 1))) (.lit 1) (.lt (.var 5) (.var 4)))
 .ok
 (.both (.goal (.not (.eq (.add (.sub (.var 2) (.var 1)) (.lit 1)) (.lit 0))))
 (.both (.goal (.not (.eq (.add (.sub (.var 5) (.var 4)) (.lit 1)) (.lit 0))))
 (.both (.ite (.ite (.le (.var 1) (.var 8)) (.le (.var 8) (.var 2)) (.lit 0))
 (.ite (.ite (.eq (.var 1) (.var 8)) (.eq (.var 2) (.var 8)) (.lit 0))
 (.ite (.eq (.wrap .u32 (.wrap .i64 (.add (.var 1) (.bin .rem .i64 (.var 6) (.add (.sub (.var 2) (.var 1)) (.lit 1)))))) (.var 8))
 (.ite (.ite (.ite (.ite (.lt (.wrap .u32 (.wrap .i64 (.add (.var 1) (.bin .rem .i64 (.var 6) (.add (.sub (.var 2) (.var 1)) (.lit 1)))))) (.var 8)) (.lit 1) (.lt (.var 8) (.wrap .u32 (.wrap .i64 (.add (.var 1) (.bin .rem .i64 (.var 6) (.add (.sub (.var 2) (.var 1)) (.lit 1)))))))) (.lit 1) (.lt (.wrap .u32 (.wrap .i64 (.add (.var 4) (.bin .rem .i64 (.var 7) (.add (.sub (.var 5) (.var 4)) (.lit 1)))))) (.var 4))) (.lit 1) (.lt (.var 5) (.wrap .u32 (.wrap .i64 (.add (.var 4) (.bin .rem .i64 (.var 7) (.add (.sub (.var 5) (.var 4)) (.lit 1))))))))
 .bad
 .ok)
 .bad)
 (.ite (.eq (.var 8) (.var 1))
 (.ite (.eq (.wrap .u32 (.wrap .i64 (.add (.var 1) (.bin .rem .i64 (.var 6) (.add (.sub (.var 2) (.var 1)) (.lit 1)))))) (.var 8))
 (.ite (.ite (.ite (.ite (.lt (.wrap .u32 (.wrap .i64 (.add (.var 1) (.bin .rem .i64 (.var 6) (.add (.sub (.var 2) (.var 1)) (.lit 1)))))) (.var 8)) (.lit 1) (.lt (.var 8) (.wrap .u32 (.wrap .i64 (.add (.var 1) (.bin .rem .i64 (.var 6) (.add (.sub (.var 2) (.var 1)) (.lit 1)))))))) (.lit 1) (.lt (.wrap .u32 (.wrap .i64 (.add (.var 4) (.bin .rem .i64 (.var 7) (.add (.sub (.var 5) (.var 4)) (.lit 1)))))) (.var 4))) (.lit 1) (.lt (.var 5) (.wrap .u32 (.wrap .i64 (.add (.var 4) (.bin .rem .i64 (.var 7) (.add (.sub (.var 5) (.var 4)) (.lit 1))))))))
 .bad
 .ok)
 (.ite (.ite (.ite (.ite (.lt (.wrap .u32 (.wrap .i64 (.add (.var 1) (.bin .rem .i64 (.var 6) (.add (.sub (.var 2) (.var 1)) (.lit 1)))))) (.wrap .u32 (.add (.var 1) (.lit 1)))) (.lit 1) (.lt (.var 2) (.wrap .u32 (.wrap .i64 (.add (.var 1) (.bin .rem .i64 (.var 6) (.add (.sub (.var 2) (.var 1)) (.lit 1)))))))) (.lit 1) (.lt (.wrap .u32 (.wrap .i64 (.add (.var 4) (.bin .rem .i64 (.var 7) (.add (.sub (.var 5) (.var 4)) (.lit 1)))))) (.var 4))) (.lit 1) (.lt (.var 5) (.wrap .u32 (.wrap .i64 (.add (.var 4) (.bin .rem .i64 (.var 7) (.add (.sub (.var 5) (.var 4)) (.lit 1))))))))
 .bad
 .ok))
 (.ite (.eq (.var 8) (.var 2))
 (.ite (.eq (.wrap .u32 (.wrap .i64 (.add (.var 1) (.bin .rem .i64 (.var 6) (.add (.sub (.var 2) (.var 1)) (.lit 1)))))) (.var 8))
 (.ite (.ite (.ite (.ite (.lt (.wrap .u32 (.wrap .i64 (.add (.var 1) (.bin .rem .i64 (.var 6) (.add (.sub (.var 2) (.var 1)) (.lit 1)))))) (.var 8)) (.lit 1) (.lt (.var 8) (.wrap .u32 (.wrap .i64 (.add (.var 1) (.bin .rem .i64 (.var 6) (.add (.sub (.var 2) (.var 1)) (.lit 1)))))))) (.lit 1) (.lt (.wrap .u32 (.wrap .i64 (.add (.var 4) (.bin .rem .i64 (.var 7) (.add (.sub (.var 5) (.var 4)) (.lit 1)))))) (.var 4))) (.lit 1) (.lt (.var 5) (.wrap .u32 (.wrap .i64 (.add (.var 4) (.bin .rem .i64 (.var 7) (.add (.sub (.var 5) (.var 4)) (.lit 1))))))))
 .bad
 .ok)
 (.ite (.ite (.ite (.ite (.lt (.wrap .u32 (.wrap .i64 (.add (.var 1) (.bin .rem .i64 (.var 6) (.add (.sub (.var 2) (.var 1)) (.lit 1)))))) (.var 1)) (.lit 1) (.lt (.wrap .u32 (.wrap .u64 (.sub (.var 2) (.lit 1)))) (.wrap .u32 (.wrap .i64 (.add (.var 1) (.bin .rem .i64 (.var 6) (.add (.sub (.var 2) (.var 1)) (.lit 1)))))))) (.lit 1) (.lt (.wrap .u32 (.wrap .i64 (.add (.var 4) (.bin .rem .i64 (.var 7) (.add (.sub (.var 5) (.var 4)) (.lit 1)))))) (.var 4))) (.lit 1) (.lt (.var 5) (.wrap .u32 (.wrap .i64 (.add (.var 4) (.bin .rem .i64 (.var 7) (.add (.sub (.var 5) (.var 4)) (.lit 1))))))))
 .bad
 .ok))
 (.ite (.eq (.wrap .u32 (.wrap .i64 (.add (.var 1) (.bin .rem .i64 (.var 6) (.add (.sub (.var 2) (.var 1)) (.lit 1)))))) (.var 8))
 (.ite (.ite (.ite (.ite (.lt (.wrap .u32 (.wrap .i64 (.add (.var 1) (.bin .rem .i64 (.var 6) (.add (.sub (.var 2) (.var 1)) (.lit 1)))))) (.var 8)) (.lit 1) (.lt (.var 8) (.wrap .u32 (.wrap .i64 (.add (.var 1) (.bin .rem .i64 (.var 6) (.add (.sub (.var 2) (.var 1)) (.lit 1)))))))) (.lit 1) (.lt (.wrap .u32 (.wrap .i64 (.add (.var 4) (.bin .rem .i64 (.var 7) (.add (.sub (.var 5) (.var 4)) (.lit 1)))))) (.var 4))) (.lit 1) (.lt (.var 5) (.wrap .u32 (.wrap .i64 (.add (.var 4) (.bin .rem .i64 (.var 7) (.add (.sub (.var 5) (.var 4)) (.lit 1))))))))
 .bad
 .ok)
 (.ite (.ite (.ite (.ite (.lt (.wrap .u32 (.wrap .i64 (.add (.var 1) (.bin .rem .i64 (.var 6) (.add (.sub (.var 2) (.var 1)) (.lit 1)))))) (.var 1)) (.lit 1) (.lt (.var 2) (.wrap .u32 (.wrap .i64 (.add (.var 1) (.bin .rem .i64 (.var 6) (.add (.sub (.var 2) (.var 1)) (.lit 1)))))))) (.lit 1) (.lt (.wrap .u32 (.wrap .i64 (.add (.var 4) (.bin .rem .i64 (.var 7) (.add (.sub (.var 5) (.var 4)) (.lit 1)))))) (.var 4))) (.lit 1) (.lt (.var 5) (.wrap .u32 (.wrap .i64 (.add (.var 4) (.bin .rem .i64 (.var 7) (.add (.sub (.var 5) (.var 4)) (.lit 1))))))))
 .bad
 .ok)))))
 (.ite (.ite (.eq (.var 1) (.var 8)) (.eq (.var 2) (.var 8)) (.lit 0))
 (.ite (.eq (.wrap .u32 (.wrap .i64 (.add (.var 1) (.bin .rem .i64 (.var 6) (.add (.sub (.var 2) (.var 1)) (.lit 1)))))) (.var 8))
 .bad
 .bad)
 (.ite (.eq (.var 8) (.var 1))
 (.ite (.eq (.wrap .u32 (.wrap .i64 (.add (.var 1) (.bin .rem .i64 (.var 6) (.add (.sub (.var 2) (.var 1)) (.lit 1)))))) (.var 8))
 .bad
 (.ite (.ite (.ite (.ite (.lt (.wrap .u32 (.wrap .i64 (.add (.var 1) (.bin .rem .i64 (.var 6) (.add (.sub (.var 2) (.var 1)) (.lit 1)))))) (.wrap .u32 (.add (.var 1) (.lit 1)))) (.lit 1) (.lt (.var 2) (.wrap .u32 (.wrap .i64 (.add (.var 1) (.bin .rem .i64 (.var 6) (.add (.sub (.var 2) (.var 1)) (.lit 1)))))))) (.lit 1) (.lt (.wrap .u32 (.wrap .i64 (.add (.var 4) (.bin .rem .i64 (.var 7) (.add (.sub (.var 5) (.var 4)) (.lit 1)))))) (.var 4))) (.lit 1) (.lt (.var 5) (.wrap .u32 (.wrap .i64 (.add (.var 4) (.bin .rem .i64 (.var 7) (.add (.sub (.var 5) (.var 4)) (.lit 1))))))))
 .bad
 .ok))
 (.ite (.eq (.var 8) (.var 2))
 (.ite (.eq (.wrap .u32 (.wrap .i64 (.add (.var 1) (.bin .rem .i64 (.var 6) (.add (.sub (.var 2) (.var 1)) (.lit 1)))))) (.var 8))
 .bad
 (.ite (.ite (.ite (.ite (.lt (.wrap .u32 (.wrap .i64 (.add (.var 1) (.bin .rem .i64 (.var 6) (.add (.sub (.var 2) (.var 1)) (.lit 1)))))) (.var 1)) (.lit 1) (.lt (.wrap .u32 (.wrap .u64 (.sub (.var 2) (.lit 1)))) (.wrap .u32 (.wrap .i64 (.add (.var 1) (.bin .rem .i64 (.var 6) (.add (.sub (.var 2) (.var 1)) (.lit 1)))))))) (.lit 1) (.lt (.wrap .u32 (.wrap .i64 (.add (.var 4) (.bin .rem .i64 (.var 7) (.add (.sub (.var 5) (.var 4)) (.lit 1)))))) (.var 4))) (.lit 1) (.lt (.var 5) (.wrap .u32 (.wrap .i64 (.add (.var 4) (.bin .rem .i64 (.var 7) (.add (.sub (.var 5) (.var 4)) (.lit 1))))))))
 .bad
 .ok))
 (.ite (.eq (.wrap .u32 (.wrap .i64 (.add (.var 1) (.bin .rem .i64 (.var 6) (.add (.sub (.var 2) (.var 1)) (.lit 1)))))) (.var 8))
 .bad
 (.ite (.ite (.ite (.ite (.lt (.wrap .u32 (.wrap .i64 (.add (.var 1) (.bin .rem .i64 (.var 6) (.add (.sub (.var 2) (.var 1)) (.lit 1)))))) (.var 1)) (.lit 1) (.lt (.var 2) (.wrap .u32 (.wrap .i64 (.add (.var 1) (.bin .rem .i64 (.var 6) (.add (.sub (.var 2) (.var 1)) (.lit 1)))))))) (.lit 1) (.lt (.wrap .u32 (.wrap .i64 (.add (.var 4) (.bin .rem .i64 (.var 7) (.add (.sub (.var 5) (.var 4)) (.lit 1)))))) (.var 4))) (.lit 1) (.lt (.var 5) (.wrap .u32 (.wrap .i64 (.add (.var 4) (.bin .rem .i64 (.var 7) (.add (.sub (.var 5) (.var 4)) (.lit 1))))))))
 .bad
 .ok))))))
 (.both (.ite (.lt (.var 1) (.var 8))
 (.ite (.le (.var 8) (.var 2))
 (.ite (.lt (.wrap .u32 (.wrap .i64 (.add (.var 1) (.bin .rem .i64 (.var 6) (.add (.sub (.var 2) (.var 1)) (.lit 1)))))) (.var 8))
 (.ite (.ite (.ite (.ite (.lt (.wrap .u32 (.wrap .i64 (.add (.var 1) (.bin .rem .i64 (.var 6) (.add (.sub (.var 2) (.var 1)) (.lit 1)))))) (.var 1)) (.lit 1) (.lt (.wrap .u32 (.ite (.lt (.wrap .u64 (.sub (.var 8) (.lit 1))) (.var 2)) (.wrap .u64 (.sub (.var 8) (.lit 1))) (.var 2))) (.wrap .u32 (.wrap .i64 (.add (.var 1) (.bin .rem .i64 (.var 6) (.add (.sub (.var 2) (.var 1)) (.lit 1)))))))) (.lit 1) (.lt (.wrap .u32 (.wrap .i64 (.add (.var 4) (.bin .rem .i64 (.var 7) (.add (.sub (.var 5) (.var 4)) (.lit 1)))))) (.var 4))) (.lit 1) (.lt (.var 5) (.wrap .u32 (.wrap .i64 (.add (.var 4) (.bin .rem .i64 (.var 7) (.add (.sub (.var 5) (.var 4)) (.lit 1))))))))
 .bad
 .ok)
 (.ite (.ite (.ite (.ite (.lt (.wrap .u32 (.wrap .i64 (.add (.var 1) (.bin .rem .i64 (.var 6) (.add (.sub (.var 2) (.var 1)) (.lit 1)))))) (.ite (.lt (.var 1) (.var 8)) (.var 8) (.var 1))) (.lit 1) (.lt (.var 2) (.wrap .u32 (.wrap .i64 (.add (.var 1) (.bin .rem .i64 (.var 6) (.add (.sub (.var 2) (.var 1)) (.lit 1)))))))) (.lit 1) (.lt (.wrap .u32 (.wrap .i64 (.add (.var 4) (.bin .rem .i64 (.var 7) (.add (.sub (.var 5) (.var 4)) (.lit 1)))))) (.var 4))) (.lit 1) (.lt (.var 5) (.wrap .u32 (.wrap .i64 (.add (.var 4) (.bin .rem .i64 (.var 7) (.add (.sub (.var 5) (.var 4)) (.lit 1))))))))
 .bad
 .ok))
 (.ite (.lt (.wrap .u32 (.wrap .i64 (.add (.var 1) (.bin .rem .i64 (.var 6) (.add (.sub (.var 2) (.var 1)) (.lit 1)))))) (.var 8))
 (.ite (.ite (.ite (.ite (.lt (.wrap .u32 (.wrap .i64 (.add (.var 1) (.bin .rem .i64 (.var 6) (.add (.sub (.var 2) (.var 1)) (.lit 1)))))) (.var 1)) (.lit 1) (.lt (.wrap .u32 (.ite (.lt (.wrap .u64 (.sub (.var 8) (.lit 1))) (.var 2)) (.wrap .u64 (.sub (.var 8) (.lit 1))) (.var 2))) (.wrap .u32 (.wrap .i64 (.add (.var 1) (.bin .rem .i64 (.var 6) (.add (.sub (.var 2) (.var 1)) (.lit 1)))))))) (.lit 1) (.lt (.wrap .u32 (.wrap .i64 (.add (.var 4) (.bin .rem .i64 (.var 7) (.add (.sub (.var 5) (.var 4)) (.lit 1)))))) (.var 4))) (.lit 1) (.lt (.var 5) (.wrap .u32 (.wrap .i64 (.add (.var 4) (.bin .rem .i64 (.var 7) (.add (.sub (.var 5) (.var 4)) (.lit 1))))))))
 .bad
 .ok)
 .bad))
 (.ite (.le (.var 8) (.var 2))
 (.ite (.lt (.wrap .u32 (.wrap .i64 (.add (.var 1) (.bin .rem .i64 (.var 6) (.add (.sub (.var 2) (.var 1)) (.lit 1)))))) (.var 8))
 .bad
 (.ite (.ite (.ite (.ite (.lt (.wrap .u32 (.wrap .i64 (.add (.var 1) (.bin .rem .i64 (.var 6) (.add (.sub (.var 2) (.var 1)) (.lit 1)))))) (.ite (.lt (.var 1) (.var 8)) (.var 8) (.var 1))) (.lit 1) (.lt (.var 2) (.wrap .u32 (.wrap .i64 (.add (.var 1) (.bin .rem .i64 (.var 6) (.add (.sub (.var 2) (.var 1)) (.lit 1)))))))) (.lit 1) (.lt (.wrap .u32 (.wrap .i64 (.add (.var 4) (.bin .rem .i64 (.var 7) (.add (.sub (.var 5) (.var 4)) (.lit 1)))))) (.var 4))) (.lit 1) (.lt (.var 5) (.wrap .u32 (.wrap .i64 (.add (.var 4) (.bin .rem .i64 (.var 7) (.add (.sub (.var 5) (.var 4)) (.lit 1))))))))
 .bad
 .ok))
 (.ite (.lt (.wrap .u32 (.wrap .i64 (.add (.var 1) (.bin .rem .i64 (.var 6) (.add (.sub (.var 2) (.var 1)) (.lit 1)))))) (.var 8))
 .bad
 .bad)))
 (.both (.ite (.lt (.var 1) (.var 5))
 (.ite (.le (.var 4) (.var 2))
 (.ite (.lt (.wrap .u32 (.wrap .i64 (.add (.var 1) (.bin .rem .i64 (.var 6) (.add (.sub (.var 2) (.var 1)) (.lit 1)))))) (.wrap .u32 (.wrap .i64 (.add (.var 4) (.bin .rem .i64 (.var 7) (.add (.sub (.var 5) (.var 4)) (.lit 1)))))))
 (.ite (.ite (.ite (.ite (.lt (.wrap .u32 (.wrap .i64 (.add (.var 1) (.bin .rem .i64 (.var 6) (.add (.sub (.var 2) (.var 1)) (.lit 1)))))) (.var 1)) (.lit 1) (.lt (.wrap .u32 (.ite (.lt (.wrap .u64 (.sub (.var 5) (.lit 1))) (.var 2)) (.wrap .u64 (.sub (.var 5) (.lit 1))) (.var 2))) (.wrap .u32 (.wrap .i64 (.add (.var 1) (.bin .rem .i64 (.var 6) (.add (.sub (.var 2) (.var 1)) (.lit 1)))))))) (.lit 1) (.lt (.wrap .u32 (.wrap .i64 (.add (.var 4) (.bin .rem .i64 (.var 7) (.add (.sub (.var 5) (.var 4)) (.lit 1)))))) (.wrap .u32 (.ite (.lt (.var 4) (.add (.var 1) (.lit 1))) (.add (.var 1) (.lit 1)) (.var 4))))) (.lit 1) (.lt (.var 5) (.wrap .u32 (.wrap .i64 (.add (.var 4) (.bin .rem .i64 (.var 7) (.add (.sub (.var 5) (.var 4)) (.lit 1))))))))
 .bad
 .ok)
 (.ite (.ite (.ite (.ite (.lt (.wrap .u32 (.wrap .i64 (.add (.var 1) (.bin .rem .i64 (.var 6) (.add (.sub (.var 2) (.var 1)) (.lit 1)))))) (.ite (.lt (.var 1) (.var 4)) (.var 4) (.var 1))) (.lit 1) (.lt (.var 2) (.wrap .u32 (.wrap .i64 (.add (.var 1) (.bin .rem .i64 (.var 6) (.add (.sub (.var 2) (.var 1)) (.lit 1)))))))) (.lit 1) (.lt (.wrap .u32 (.wrap .i64 (.add (.var 4) (.bin .rem .i64 (.var 7) (.add (.sub (.var 5) (.var 4)) (.lit 1)))))) (.var 4))) (.lit 1) (.lt (.ite (.lt (.var 2) (.var 5)) (.var 2) (.var 5)) (.wrap .u32 (.wrap .i64 (.add (.var 4) (.bin .rem .i64 (.var 7) (.add (.sub (.var 5) (.var 4)) (.lit 1))))))))
 .bad
 .ok))
 (.ite (.lt (.wrap .u32 (.wrap .i64 (.add (.var 1) (.bin .rem .i64 (.var 6) (.add (.sub (.var 2) (.var 1)) (.lit 1)))))) (.wrap .u32 (.wrap .i64 (.add (.var 4) (.bin .rem .i64 (.var 7) (.add (.sub (.var 5) (.var 4)) (.lit 1)))))))
 (.ite (.ite (.ite (.ite (.lt (.wrap .u32 (.wrap .i64 (.add (.var 1) (.bin .rem .i64 (.var 6) (.add (.sub (.var 2) (.var 1)) (.lit 1)))))) (.var 1)) (.lit 1) (.lt (.wrap .u32 (.ite (.lt (.wrap .u64 (.sub (.var 5) (.lit 1))) (.var 2)) (.wrap .u64 (.sub (.var 5) (.lit 1))) (.var 2))) (.wrap .u32 (.wrap .i64 (.add (.var 1) (.bin .rem .i64 (.var 6) (.add (.sub (.var 2) (.var 1)) (.lit 1)))))))) (.lit 1) (.lt (.wrap .u32 (.wrap .i64 (.add (.var 4) (.bin .rem .i64 (.var 7) (.add (.sub (.var 5) (.var 4)) (.lit 1)))))) (.wrap .u32 (.ite (.lt (.var 4) (.add (.var 1) (.lit 1))) (.add (.var 1) (.lit 1)) (.var 4))))) (.lit 1) (.lt (.var 5) (.wrap .u32 (.wrap .i64 (.add (.var 4) (.bin .rem .i64 (.var 7) (.add (.sub (.var 5) (.var 4)) (.lit 1))))))))
 .bad
 .ok)
 .bad))
 (.ite (.le (.var 4) (.var 2))
 (.ite (.lt (.wrap .u32 (.wrap .i64 (.add (.var 1) (.bin .rem .i64 (.var 6) (.add (.sub (.var 2) (.var 1)) (.lit 1)))))) (.wrap .u32 (.wrap .i64 (.add (.var 4) (.bin .rem .i64 (.var 7) (.add (.sub (.var 5) (.var 4)) (.lit 1)))))))
 .bad
 (.ite (.ite (.ite (.ite (.lt (.wrap .u32 (.wrap .i64 (.add (.var 1) (.bin .rem .i64 (.var 6) (.add (.sub (.var 2) (.var 1)) (.lit 1)))))) (.ite (.lt (.var 1) (.var 4)) (.var 4) (.var 1))) (.lit 1) (.lt (.var 2) (.wrap .u32 (.wrap .i64 (.add (.var 1) (.bin .rem .i64 (.var 6) (.add (.sub (.var 2) (.var 1)) (.lit 1)))))))) (.lit 1) (.lt (.wrap .u32 (.wrap .i64 (.add (.var 4) (.bin .rem .i64 (.var 7) (.add (.sub (.var 5) (.var 4)) (.lit 1)))))) (.var 4))) (.lit 1) (.lt (.ite (.lt (.var 2) (.var 5)) (.var 2) (.var 5)) (.wrap .u32 (.wrap .i64 (.add (.var 4) (.bin .rem .i64 (.var 7) (.add (.sub (.var 5) (.var 4)) (.lit 1))))))))
 .bad
 .ok))
 (.ite (.lt (.wrap .u32 (.wrap .i64 (.add (.var 1) (.bin .rem .i64 (.var 6) (.add (.sub (.var 2) (.var 1)) (.lit 1)))))) (.wrap .u32 (.wrap .i64 (.add (.var 4) (.bin .rem .i64 (.var 7) (.add (.sub (.var 5) (.var 4)) (.lit 1)))))))
 .bad
 .bad)))
 (.ite (.ite (.ite (.ite (.lt (.wrap .u32 (.wrap .i64 (.add (.var 1) (.bin .rem .i64 (.var 6) (.add (.sub (.var 2) (.var 1)) (.lit 1)))))) (.var 1)) (.lit 1) (.lt (.var 2) (.wrap .u32 (.wrap .i64 (.add (.var 1) (.bin .rem .i64 (.var 6) (.add (.sub (.var 2) (.var 1)) (.lit 1)))))))) (.lit 1) (.lt (.wrap .u32 (.wrap .i64 (.add (.var 4) (.bin .rem .i64 (.var 7) (.add (.sub (.var 5) (.var 4)) (.lit 1)))))) (.var 4))) (.lit 1) (.lt (.var 5) (.wrap .u32 (.wrap .i64 (.add (.var 4) (.bin .rem .i64 (.var 7) (.add (.sub (.var 5) (.var 4)) (.lit 1))))))))
 .bad
 .ok)))))))
set_option maxHeartbeats 8000000 in
theorem ev : finT (gam shs) (evFn Try.prog C0 20 30 4 (symA 0 shs) [] []) = asked := by kernel_rfl
set_option maxHeartbeats 8000000 in
theorem holds (ρ : Env) (hI : ρ.I = noI) (hf : ρ.Fits (gam shs)) : asked.Holds ρ := by
  have h1 := hf 1 0 4294967295 rfl
  have h2 := hf 2 0 4294967295 rfl
  have h4 := hf 4 0 4294967295 rfl
  have h5 := hf 5 0 4294967295 rfl
  have h6 := hf 6 0 4294967295 rfl
  have h7 := hf 7 0 4294967295 rfl
  have h8 := hf 8 0 4294967295 rfl
  simp only [asked, NT.Holds, N.denP, N.den]
  generalize ρ.i 1 = dl at *
  generalize ρ.i 2 = dg at *
  generalize ρ.i 4 = sl at *
  generalize ρ.i 5 = sg at *
  generalize ρ.i 6 = n at *
  generalize ρ.i 7 = m at *
  generalize ρ.i 8 = im at *
  refine ⟨fun _ => trivial, fun hg => ?_⟩
  have ho : dl ≤ dg ∧ sl ≤ sg := by
    simp at hg
    omega
  clear hg
  have ha := word_in (l := dl) (g := dg) (n := n) h1.1 ho.1 h2.2 h6.1
  have hb := word_in (l := sl) (g := sg) (n := m) h4.1 ho.2 h5.2 h7.1
  generalize IntKind.u32.wrap (IntKind.i64.wrap (dl + arith .rem .i64 n (dg - dl + 1))) = a at *
  generalize IntKind.u32.wrap (IntKind.i64.wrap (sl + arith .rem .i64 m (sg - sl + 1))) = b at *
  have w1 : ∀ x : Int, 0 ≤ x → x ≤ 4294967295 → IntKind.u32.wrap x = x := fun x => fits_u32
  have w2 : ∀ x : Int, 1 ≤ x → x ≤ 4294967295 → IntKind.u64.wrap (x - 1) = x - 1 := fun x a b => fits_u64 (by omega) (by omega)
  clear h6 h7 hf hI
  have e1 := w1 (dl + 1)
  have e2 := w2 dg
  have e3 := w2 sg
  have e4 := w2 im
  generalize IntKind.u64.wrap (dg - 1) = dg1 at *
  generalize IntKind.u64.wrap (sg - 1) = sg1 at *
  generalize IntKind.u64.wrap (im - 1) = im1 at *
  have e5 := w1 dg1
  have f1 := cif_or (im1 < dg) im1 dg
  have f2 := cif_or (dl < im) im dl
  have f3 := cif_or (sg1 < dg) sg1 dg
  have f4 := cif_or (sl < dl + 1) (dl + 1) sl
  have f5 := cif_or (dl < sl) sl dl
  have f6 := cif_or (dg < sg) dg sg
  have g1 := w1 (cif (im1 < dg) im1 dg)
  have g3 := w1 (cif (sg1 < dg) sg1 dg)
  have g4 := w1 (cif (sl < dl + 1) (dl + 1) sl)
  generalize cif (im1 < dg) im1 dg = x1 at *
  generalize cif (dl < im) im dl = x2 at *
  generalize cif (sg1 < dg) sg1 dg = x3 at *
  generalize cif (sl < dl + 1) (dl + 1) sl = x4 at *
  generalize cif (dl < sl) sl dl = x5 at *
  generalize cif (dg < sg) dg sg = x6 at *
  generalize IntKind.u32.wrap (dl + 1) = y0 at *
  generalize IntKind.u32.wrap dg1 = y5 at *
  generalize IntKind.u32.wrap x1 = y1 at *
  generalize IntKind.u32.wrap x3 = y3 at *
  generalize IntKind.u32.wrap x4 = y4 at *
  clear w1 w2
  simp only [ne_eq, Int.one_ne_zero, not_false_eq_true, implies_true, true_and, and_true, not_true_eq_false, imp_false]
  refine ⟨by omega, by omega, ?_, ?_, ?_, ?_⟩
  · clear f1 f2 f3 f4 f5 f6 g1 g3 g4 e3 e4
    repeat' (first | apply And.intro | intro _)
    all_goals omega
  · clear f3 f4 f5 f6 g3 g4 e3 e5 e1 e2
    repeat' (first | apply And.intro | intro _)
    all_goals omega
  · clear f1 f2 g1 e4 e5 e1 e2
    repeat' (first | apply And.intro | intro _)
    all_goals omega
  · clear f1 f2 f3 f4 f5 f6 g1 g3 g4 e3 e4 e1 e2 e5
    omega

set_option maxHeartbeats 1000000 in
theorem lifted (os : Os) (started : os.Started) (H : Type) (enc : TypeId × Value → H) :
    ReturnsInHanded {} Try.checked os 4 .any (Rows.checkJumpsSpec.pre6 enc Try.prog Try.f4 Rows.checkJumpsRow.domain false) (Rows.checkJumpsSpec.post enc Try.prog Try.f4 false true false false) := by
  refine returnsInHanded_of_change (C := Try.checked) own started (by kernel_rfl) Try.func4
    (ChangeSpec.witness6 (enc := enc) (C := Try.checked) false ⟨#[], #[.agg #[.bool false, .int .u32 0, .int .u32 0], .agg #[.bool false, .int .u32 0, .int .u32 0], .agg #[.int .u32 0, .int .u32 0, .int .u32 0]], []⟩ 8 (by kernel_rfl) (by kernel_rfl) (by kernel_rfl) (by kernel_rfl)) ?_
  intro W base args ds gs before hval0 hW hcnd _
  have hval : ∀ (j : Nat) t v, Try.f4.params[j]? = some t → args[j]? = some v → Value.okWide Try.prog W .any base t v := hval0
  have hW' := hW
  obtain ⟨p, q, hA0, hV, rfl, hfz, hnd⟩ := hW
  have hA : DataW.TrodAll enc Try.prog W 0 (fun _ => true) true Try.f4.params.toList args.toList ds p := hA0
  rw [Try.params4] at hA hval
  obtain ⟨v0, vs0, d0, ds0, p0, q0, hargs, rfl, rfl, h0, r0⟩ := trodAll_cons hA
  obtain ⟨v1, vs1, d1, ds1, p1, q1, rfl, rfl, rfl, h1, r1⟩ := trodAll_cons r0
  obtain ⟨v2, vs2, d2, ds2, p2, q2, rfl, rfl, rfl, h2, r2⟩ := trodAll_cons r1
  obtain ⟨rfl, rfl, rfl⟩ := trodAll_nil r2
  obtain rfl : args = #[v0, v1, v2] := by cases args; simp_all
  obtain ⟨rfl, rfl⟩ := trodVars_none hV
  have lt0 : ∀ x ∈ p0, x.block < W.heap.size := by obtain ⟨m, hm⟩ := h0; exact DataW.trod_lt m _ _ _ hm
  obtain ⟨c0, o0⟩ := shT_okA (s := .row [none, some .u32, some .u32]) (by kernel_rfl) (hval 0 24 v0 rfl rfl)
  have lt1 : ∀ x ∈ p1, x.block < W.heap.size := by obtain ⟨m, hm⟩ := h1; exact DataW.trod_lt m _ _ _ hm
  obtain ⟨c1, o1⟩ := shT_okA (s := .row [none, some .u32, some .u32]) (by kernel_rfl) (hval 1 24 v1 rfl rfl)
  have lt2 : ∀ x ∈ p2, x.block < W.heap.size := by obtain ⟨m, hm⟩ := h2; exact DataW.trod_lt m _ _ _ hm
  obtain ⟨c2, o2⟩ := shT_okA (s := .row [some .u32, some .u32, some .u32]) (by kernel_rfl) (hval 2 41 v2 rfl rfl)
  refine (law_true (l := shs) (C := C0) (I := noI) (fun ρ _ => C0_ok ρ) ev holds (vals := #[v0, v1, v2]) (all := (c0 ++ (c1 ++ (c2 ++ [])))) ⟨v0, _, c0, _, rfl, rfl, o0, v1, _, c1, _, rfl, rfl, o1, v2, _, c2, _, rfl, rfl, o2, rfl, rfl⟩ W).mono fun e W' ⟨he, bel⟩ => ?_
  subst he
  exact ⟨_, rfl, _, _, _, [], _, [], hW', trodAll_mk1 (shut_bool Try.underlying4 _), (trodAll_cons_mk (Below.trod laidOut (by kernel_rfl) (of_decide_eq_true (by kernel_rfl)) h0 bel lt0) (trodAll_cons_mk (Below.trod laidOut (by kernel_rfl) (of_decide_eq_true (by kernel_rfl)) h1 bel lt1) (trodAll_cons_mk (Below.trod laidOut (by kernel_rfl) (of_decide_eq_true (by kernel_rfl)) h2 bel lt2) trodAll_mk0))), rfl, bel.frame _, fun h => by cases h⟩

theorem over : Rows.checkJumpsRow.holds Try.pinned (OpenSpec.ofChange Rows.checkJumpsSpec) :=
  OpenClaim.holds_of_wide 4 Try.f4 rfl rfl rfl rfl rfl rfl rfl ⟨rfl, rfl, rfl, rfl, rfl⟩ rfl rfl rfl rfl rfl (by kernel_rfl) Try.func4 (by kernel_rfl)
    (of_decide_eq_true (by kernel_rfl)) (by unfold Func.isWrapper; first | (rw [if_pos (by decide +kernel)]; kernel_rfl) | (rw [if_neg (by decide +kernel)]; exact ⟨rfl, rfl⟩))
    (fun os started H enc _ => lifted os started H enc)
end Go.Proofs.Ytpamdmikdnoplaa.CheckJumps
namespace Go.Proofs.Ytpamdmikdnoplaa
theorem CheckJumpsProved : Rows.CheckJumpsSaid := CheckJumps.over
#print axioms CheckJumpsProved
end Go.Proofs.Ytpamdmikdnoplaa
