/- From a tree, held against what is named, to the call. -/
import Derived.Test.YtpamdmikdnoplaaSxP
namespace Go.Sx
open Go.RowKit
set_option linter.unusedVariables false
variable {P : Program}
theorem tree_calls {I : Nat → List Int → Int} {C : FuncId → Option Ctr} (hC : ∀ ρ : Env, ρ.I = I → ∀ f c, C f = some c → ∀ w0 own, CtrOk P ρ w0 own f c) {N n : Nat} {f : FuncId} {sas : List SV} {pre : List E} {Γ : List (Int × Int)} {T : NT}
    {g : List E → SV → Option (List E)} (hev : finT Γ (chkL g (evFn P C N n f sas [] pre)) = T) {ρ : Env} (hI : ρ.I = I) (hpre : ∀ e ∈ pre, e.denB ρ = true) (hf : ρ.Fits Γ) (hT : T.Holds ρ)
    {vals : Array Value} (hrel : RelL ρ [] sas vals.toList) (W : World) (Post : Value → Prop) (hg : ∀ p s es, g p s = some es → ρ.Path p → (∀ e ∈ es, e.denB ρ = true) → ∀ β v, s.rel ρ β v → Post v) :
    Calls P f vals W fun e W' => ∃ v, Post v ∧ e = .returned v ∧ Fr W noOwn W' := by
  have hs := Tree.sat_bind (finT_sound hf (t := chkL g (evFn P C N n f sas [] pre)) (by rw [hev]; exact hT))
  have H : HRel ρ W noOwn [] [] W := ⟨rfl, List.nodup_nil, by simp, by simp, by simp, by simp, Fr.refl _ _⟩
  refine (evFn_sound (P := P) (hC ρ hI) n W noOwn f _ [] _ _ hs [] W vals H hpre hrel).mono fun e W' he => ?_
  obtain ⟨out, h', p', β', hL, _, H', hp', ho⟩ := he
  cases out with
  | pan s => exact hL.elim
  | ret s =>
    simp only at hL
    split at hL
    · rename_i es hes
      obtain ⟨x, hx, hd⟩ := hL hp'
      simp only [Out.ret.injEq, SV.bool.injEq] at hx
      subst hx
      obtain ⟨v, hv, rfl⟩ := ho
      exact ⟨v, hg _ _ _ hes hp' (denB_andL ρ hd) β' v hv, rfl, H'.fr⟩
    · exact hL.elim
end Go.Sx
