/- The contracts for the laws. -/
import Derived.Test.YtpamdmikdnoplaaCkRe
namespace Go.Proofs.Ytpamdmikdnoplaa
open Go.Sx Go.RowKit Go.Ck
set_option linter.unusedVariables false
def CL : FuncId → Option Ctr := fun | 11 => some (pureCtr knownG) | 13 => some mayC.ctr | 14 => some behC.ctr | 16 => some rightC.ctr | 18 => some refC.ctr | _ => none
theorem CL_ok (ρ : Env) (hI : ρ.I = CI) (f : FuncId) (c : Ctr) (h : CL f = some c) (w0 : World) (own : Own) : CtrOk Try.prog ρ w0 own f c := by
  unfold CL at h
  split at h
  · simp only [Option.some.injEq] at h; subst h; exact known_ok ρ w0 own
  · simp only [Option.some.injEq] at h; subst h; exact PC.ok may13_ok hI w0 own
  · simp only [Option.some.injEq] at h; subst h; exact PC.ok beh14_ok hI w0 own
  · simp only [Option.some.injEq] at h; subst h; exact PC.ok right16_ok hI w0 own
  · simp only [Option.some.injEq] at h; subst h; exact PC.ok beh18_ok hI w0 own
  · cases h
end Go.Proofs.Ytpamdmikdnoplaa
