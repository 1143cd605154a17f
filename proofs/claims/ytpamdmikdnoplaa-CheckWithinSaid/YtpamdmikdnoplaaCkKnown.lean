/- 'cachetlaw06.known' returns true and turns nothing that was there. -/
import Derived.Test.YtpamdmikdnoplaaSxL
import Derived.Test.YtpamdmikdnoplaaProg
import Derived.KernelRfl
namespace Go.Proofs.Ytpamdmikdnoplaa
open Go.Sx Go.RowKit
set_option linter.unusedVariables false
set_option maxRecDepth 100000
def noI : Nat → List Int → Int := fun _ _ => 0
def noC : FuncId → Option Ctr := fun _ => none
set_option maxHeartbeats 4000000 in
theorem known_ev : finT (gam []) (evFn Try.prog noC 20 30 11 (symA 0 []) [] []) = .ok := by kernel_rfl
theorem known_true (W : World) : Calls Try.prog 11 #[] W fun e W' => e = .returned (.bool true) ∧ Below W.heap.size W W' :=
  law_true (C := noC) (I := noI) (fun _ _ f c h => by cases h) known_ev (fun _ _ _ => trivial) (all := []) ⟨rfl, rfl⟩ W
def knownG : List SV → Option (List E × SV)
  | [] => some ([], .bool tt)
  | _ => none
theorem known_ok (ρ : Env) (w0 : World) (own : Own) : CtrOk Try.prog ρ w0 own 11 (pureCtr knownG) :=
  pureCtr_ok (fun args ns s h _ β vals hr w => by
    unfold knownG at h
    split at h
    · simp only [Option.some.injEq, Prod.mk.injEq] at h
      obtain ⟨rfl, rfl⟩ := h
      simp only [RelL] at hr
      obtain rfl : vals = #[] := by cases vals; simp_all
      exact (known_true w).mono fun e w' he => ⟨.bool true, by simp [SV.rel, tt, E.denB], he.1, fr_of_below he.2⟩
    · cases h) w0 own
def C0 : FuncId → Option Ctr
  | 11 => some (pureCtr knownG)
  | _ => none
theorem C0_ok (ρ : Env) (f : FuncId) (c : Ctr) (h : C0 f = some c) (w0 : World) (own : Own) : CtrOk Try.prog ρ w0 own f c := by
  unfold C0 at h
  split at h
  · simp only [Option.some.injEq] at h; subst h; exact known_ok ρ w0 own
  · cases h
end Go.Proofs.Ytpamdmikdnoplaa
