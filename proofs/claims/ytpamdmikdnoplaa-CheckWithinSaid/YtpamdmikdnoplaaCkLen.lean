/- Contracts: 'known' and math/bits.Len64. -/
import Derived.Test.YtpamdmikdnoplaaCkKnown
import Derived.Test.YtpamdmikdnoplaaCkShelf
namespace Go.Proofs.Ytpamdmikdnoplaa
open Go.Sx Go.RowKit
set_option linter.unusedVariables false
def lenI : Nat → List Int → Int
  | 64, [x] => (Lib.bitLen x.toNat : Int)
  | _, _ => 0
def lenG : List SV → Option (List E × SV)
  | [.int .u64 e] => some ([.le (.lit 0) e, .le e (.lit 18446744073709551615)], .int .i64 (.app 64 (.cons e .nil)))
  | _ => none
theorem len_ok' (ρ : Env) (hI : ∀ x, ρ.I 64 [x] = (Lib.bitLen x.toNat : Int)) (w0 : World) (own : Own) : CtrOk Try.prog ρ w0 own 92 (pureCtr lenG) :=
  pureCtr_ok (fun args ns s h hn β vals hr w => by
    unfold lenG at h
    split at h
    · rename_i e
      simp only [Option.some.injEq, Prod.mk.injEq] at h
      obtain ⟨rfl, rfl⟩ := h
      obtain ⟨v, r, hv, h1, h2⟩ := hr
      have h2' : r = [] := h2
      subst h2'
      simp only [SV.rel] at h1
      subst h1
      obtain rfl : vals = #[.int .u64 (e.den ρ)] := by cases vals; simp_all
      have a0 := hn _ (List.mem_cons_self)
      have a1 := hn _ (List.mem_cons_of_mem _ List.mem_cons_self)
      replace a0 := of_decide_eq_true a0
      replace a1 := of_decide_eq_true a1
      simp only [E.den] at a0 a1
      refine (Try.bits_Len64 (e.den ρ) w a0 a1).mono fun e' w' he => ?_
      obtain ⟨rfl, rfl⟩ := he
      exact ⟨_, by simp only [SV.rel, E.den, E.denL, appI, hI]; rfl, rfl, Fr.refl _ _⟩
    · cases h) w0 own
theorem len_ok (ρ : Env) (hI : ρ.I = lenI) (w0 : World) (own : Own) : CtrOk Try.prog ρ w0 own 92 (pureCtr lenG) := len_ok' ρ (fun x => by rw [hI]; rfl) w0 own
def C1 : FuncId → Option Ctr
  | 11 => some (pureCtr knownG)
  | 92 => some (pureCtr lenG)
  | _ => none
theorem C1_ok (ρ : Env) (hI : ρ.I = lenI) (f : FuncId) (c : Ctr) (h : C1 f = some c) (w0 : World) (own : Own) : CtrOk Try.prog ρ w0 own f c := by
  unfold C1 at h
  split at h
  · simp only [Option.some.injEq] at h; subst h; exact known_ok ρ w0 own
  · simp only [Option.some.injEq] at h; subst h; exact len_ok ρ hI w0 own
  · cases h
end Go.Proofs.Ytpamdmikdnoplaa
