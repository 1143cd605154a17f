/- The law CheckUnset returns true whatever the input, and its argument reads behind the call as it read before; no condition. -/
import Derived.Test.YtpamdmikdnoplaaCkCon
import Derived.Test.YtpamdmikdnoplaaRows
import Derived.WalkKit
import Derived.ProofKit
import Derived.OpenShut
import Derived.ShutString
import Derived.ChangeOld
import Derived.Below
import Derived.Carry
namespace Go.Proofs.Ytpamdmikdnoplaa.CheckUnset
open Go.ChangeShapes Go.WideShapes Go.ChangeAt Go.RowKit Go.Sx
set_option linter.unusedVariables false
set_option maxRecDepth 100000

theorem own : ownKnob Try.prog.godebug = none := by kernel_rfl
theorem laidOut : laidOutB Try.prog = true := by kernel_rfl
def shs : List Sh := [.row [some .i64, some .i64, some .i64, some .i64, some .u32]]
def asked : NT :=
 (.ite (.not (.app (.app 300 (.cons (.var 0) (.cons (.var 1) (.cons (.var 2) (.cons (.var 3) (.cons (.var 4) .nil))))))))
 .ok
 (.both (.goal (.app (.app 301 (.cons (.lit 0) (.cons (.lit 0) (.cons (.lit 0) (.cons (.lit 1) (.cons (.lit 1) (.cons (.lit 1) (.cons (.lit 1) (.cons (.lit 1) (.cons (.lit 1) (.cons (.lit 1) (.cons (.lit 1) (.cons (.lit 1) (.cons (.lit 1) (.cons (.lit 1) (.cons (.lit 1) (.cons (.lit 1) (.cons (.lit 1) (.cons (.lit 1) (.cons (.lit 1) (.cons (.lit 1) (.cons (.lit 1) (.cons (.lit 1) (.cons (.lit 1) (.cons (.lit 1) (.cons (.lit 1) (.cons (.lit 1) (.cons (.lit 1) (.cons (.lit 1) (.cons (.lit 1) (.cons (.lit 1) .nil)))))))))))))))))))))))))))))))))
 (.both (.goal (.app (.app 301 (.cons (.lit 0) (.cons (.lit 0) (.cons (.lit 0) (.cons (.lit 1) (.cons (.lit 1) (.cons (.lit 1) (.cons (.lit 1) (.cons (.lit 1) (.cons (.lit 1) (.cons (.lit 1) (.cons (.lit 1) (.cons (.lit 1) (.cons (.lit 1) (.cons (.lit 1) (.cons (.lit 1) (.cons (.lit 1) (.cons (.lit 1) (.cons (.lit 1) (.cons (.lit 1) (.cons (.lit 1) (.cons (.lit 1) (.cons (.lit 1) (.cons (.lit 1) (.cons (.lit 1) (.cons (.lit 1) (.cons (.lit 1) (.cons (.lit 1) (.cons (.lit 1) (.cons (.lit 1) (.cons (.lit 1) .nil)))))))))))))))))))))))))))))))))
 (.both (.goal (.app (.app 301 (.cons (.lit 1) (.cons (.lit 1) (.cons (.lit 1) (.cons (.lit 0) (.cons (.lit 0) (.cons (.lit 0) (.cons (.lit 1) (.cons (.lit 1) (.cons (.lit 1) (.cons (.lit 1) (.cons (.lit 1) (.cons (.lit 1) (.cons (.lit 1) (.cons (.lit 1) (.cons (.lit 1) (.cons (.lit 1) (.cons (.lit 1) (.cons (.lit 1) (.cons (.lit 1) (.cons (.lit 1) (.cons (.lit 1) (.cons (.lit 1) (.cons (.lit 1) (.cons (.lit 1) (.cons (.lit 1) (.cons (.lit 1) (.cons (.lit 1) (.cons (.lit 1) (.cons (.lit 1) (.cons (.lit 1) .nil)))))))))))))))))))))))))))))))))
 (.both (.goal (.app (.app 301 (.cons (.lit 1) (.cons (.lit 1) (.cons (.lit 1) (.cons (.lit 0) (.cons (.lit 0) (.cons (.lit 0) (.cons (.lit 1) (.cons (.lit 1) (.cons (.lit 1) (.cons (.lit 1) (.cons (.lit 1) (.cons (.lit 1) (.cons (.lit 1) (.cons (.lit 1) (.cons (.lit 1) (.cons (.lit 1) (.cons (.lit 1) (.cons (.lit 1) (.cons (.lit 1) (.cons (.lit 1) (.cons (.lit 1) (.cons (.lit 1) (.cons (.lit 1) (.cons (.lit 1) (.cons (.lit 1) (.cons (.lit 1) (.cons (.lit 1) (.cons (.lit 1) (.cons (.lit 1) (.cons (.lit 1) .nil)))))))))))))))))))))))))))))))))
 (.both (.goal (.app (.app 301 (.cons (.lit 1) (.cons (.lit 1) (.cons (.lit 1) (.cons (.lit 1) (.cons (.lit 1) (.cons (.lit 1) (.cons (.lit 0) (.cons (.lit 0) (.cons (.lit 0) (.cons (.lit 1) (.cons (.lit 1) (.cons (.lit 1) (.cons (.lit 1) (.cons (.lit 1) (.cons (.lit 1) (.cons (.lit 1) (.cons (.lit 1) (.cons (.lit 1) (.cons (.lit 1) (.cons (.lit 1) (.cons (.lit 1) (.cons (.lit 1) (.cons (.lit 1) (.cons (.lit 1) (.cons (.lit 1) (.cons (.lit 1) (.cons (.lit 1) (.cons (.lit 1) (.cons (.lit 1) (.cons (.lit 1) .nil)))))))))))))))))))))))))))))))))
 (.both (.goal (.app (.app 301 (.cons (.lit 1) (.cons (.lit 1) (.cons (.lit 1) (.cons (.lit 1) (.cons (.lit 1) (.cons (.lit 1) (.cons (.lit 0) (.cons (.lit 0) (.cons (.lit 0) (.cons (.lit 1) (.cons (.lit 1) (.cons (.lit 1) (.cons (.lit 1) (.cons (.lit 1) (.cons (.lit 1) (.cons (.lit 1) (.cons (.lit 1) (.cons (.lit 1) (.cons (.lit 1) (.cons (.lit 1) (.cons (.lit 1) (.cons (.lit 1) (.cons (.lit 1) (.cons (.lit 1) (.cons (.lit 1) (.cons (.lit 1) (.cons (.lit 1) (.cons (.lit 1) (.cons (.lit 1) (.cons (.lit 1) .nil)))))))))))))))))))))))))))))))))
 (.both (.goal (.app (.app 301 (.cons (.lit 1) (.cons (.lit 1) (.cons (.lit 1) (.cons (.lit 1) (.cons (.lit 1) (.cons (.lit 1) (.cons (.lit 1) (.cons (.lit 1) (.cons (.lit 1) (.cons (.lit 0) (.cons (.lit 0) (.cons (.lit 0) (.cons (.lit 1) (.cons (.lit 1) (.cons (.lit 1) (.cons (.lit 1) (.cons (.lit 1) (.cons (.lit 1) (.cons (.lit 1) (.cons (.lit 1) (.cons (.lit 1) (.cons (.lit 1) (.cons (.lit 1) (.cons (.lit 1) (.cons (.lit 1) (.cons (.lit 1) (.cons (.lit 1) (.cons (.lit 1) (.cons (.lit 1) (.cons (.lit 1) .nil)))))))))))))))))))))))))))))))))
 (.both (.goal (.app (.app 301 (.cons (.lit 1) (.cons (.lit 1) (.cons (.lit 1) (.cons (.lit 1) (.cons (.lit 1) (.cons (.lit 1) (.cons (.lit 1) (.cons (.lit 1) (.cons (.lit 1) (.cons (.lit 0) (.cons (.lit 0) (.cons (.lit 0) (.cons (.lit 1) (.cons (.lit 1) (.cons (.lit 1) (.cons (.lit 1) (.cons (.lit 1) (.cons (.lit 1) (.cons (.lit 1) (.cons (.lit 1) (.cons (.lit 1) (.cons (.lit 1) (.cons (.lit 1) (.cons (.lit 1) (.cons (.lit 1) (.cons (.lit 1) (.cons (.lit 1) (.cons (.lit 1) (.cons (.lit 1) (.cons (.lit 1) .nil)))))))))))))))))))))))))))))))))
 (.both (.goal (.app (.app 301 (.cons (.lit 1) (.cons (.lit 1) (.cons (.lit 1) (.cons (.lit 1) (.cons (.lit 1) (.cons (.lit 1) (.cons (.lit 1) (.cons (.lit 1) (.cons (.lit 1) (.cons (.lit 1) (.cons (.lit 1) (.cons (.lit 1) (.cons (.lit 0) (.cons (.lit 0) (.cons (.lit 0) (.cons (.lit 1) (.cons (.lit 1) (.cons (.lit 1) (.cons (.lit 1) (.cons (.lit 1) (.cons (.lit 1) (.cons (.lit 1) (.cons (.lit 1) (.cons (.lit 1) (.cons (.lit 1) (.cons (.lit 1) (.cons (.lit 1) (.cons (.lit 1) (.cons (.lit 1) (.cons (.lit 1) .nil)))))))))))))))))))))))))))))))))
 (.both (.goal (.app (.app 301 (.cons (.lit 1) (.cons (.lit 1) (.cons (.lit 1) (.cons (.lit 1) (.cons (.lit 1) (.cons (.lit 1) (.cons (.lit 1) (.cons (.lit 1) (.cons (.lit 1) (.cons (.lit 1) (.cons (.lit 1) (.cons (.lit 1) (.cons (.lit 0) (.cons (.lit 0) (.cons (.lit 0) (.cons (.lit 1) (.cons (.lit 1) (.cons (.lit 1) (.cons (.lit 1) (.cons (.lit 1) (.cons (.lit 1) (.cons (.lit 1) (.cons (.lit 1) (.cons (.lit 1) (.cons (.lit 1) (.cons (.lit 1) (.cons (.lit 1) (.cons (.lit 1) (.cons (.lit 1) (.cons (.lit 1) .nil)))))))))))))))))))))))))))))))))
 (.both (.goal (.app (.app 301 (.cons (.lit 1) (.cons (.lit 1) (.cons (.lit 1) (.cons (.lit 1) (.cons (.lit 1) (.cons (.lit 1) (.cons (.lit 1) (.cons (.lit 1) (.cons (.lit 1) (.cons (.lit 1) (.cons (.lit 1) (.cons (.lit 1) (.cons (.lit 1) (.cons (.lit 1) (.cons (.lit 1) (.cons (.lit 0) (.cons (.lit 0) (.cons (.lit 0) (.cons (.lit 1) (.cons (.lit 1) (.cons (.lit 1) (.cons (.lit 1) (.cons (.lit 1) (.cons (.lit 1) (.cons (.lit 1) (.cons (.lit 1) (.cons (.lit 1) (.cons (.lit 1) (.cons (.lit 1) (.cons (.lit 1) .nil)))))))))))))))))))))))))))))))))
 (.both (.goal (.app (.app 301 (.cons (.lit 1) (.cons (.lit 1) (.cons (.lit 1) (.cons (.lit 1) (.cons (.lit 1) (.cons (.lit 1) (.cons (.lit 1) (.cons (.lit 1) (.cons (.lit 1) (.cons (.lit 1) (.cons (.lit 1) (.cons (.lit 1) (.cons (.lit 1) (.cons (.lit 1) (.cons (.lit 1) (.cons (.lit 0) (.cons (.lit 0) (.cons (.lit 0) (.cons (.lit 1) (.cons (.lit 1) (.cons (.lit 1) (.cons (.lit 1) (.cons (.lit 1) (.cons (.lit 1) (.cons (.lit 1) (.cons (.lit 1) (.cons (.lit 1) (.cons (.lit 1) (.cons (.lit 1) (.cons (.lit 1) .nil)))))))))))))))))))))))))))))))))
 (.both (.goal (.app (.app 301 (.cons (.lit 1) (.cons (.lit 1) (.cons (.lit 1) (.cons (.lit 1) (.cons (.lit 1) (.cons (.lit 1) (.cons (.lit 1) (.cons (.lit 1) (.cons (.lit 1) (.cons (.lit 1) (.cons (.lit 1) (.cons (.lit 1) (.cons (.lit 1) (.cons (.lit 1) (.cons (.lit 1) (.cons (.lit 1) (.cons (.lit 1) (.cons (.lit 1) (.cons (.lit 0) (.cons (.lit 0) (.cons (.lit 0) (.cons (.lit 1) (.cons (.lit 1) (.cons (.lit 1) (.cons (.lit 1) (.cons (.lit 1) (.cons (.lit 1) (.cons (.lit 1) (.cons (.lit 1) (.cons (.lit 1) .nil)))))))))))))))))))))))))))))))))
 (.both (.goal (.app (.app 301 (.cons (.lit 1) (.cons (.lit 1) (.cons (.lit 1) (.cons (.lit 1) (.cons (.lit 1) (.cons (.lit 1) (.cons (.lit 1) (.cons (.lit 1) (.cons (.lit 1) (.cons (.lit 1) (.cons (.lit 1) (.cons (.lit 1) (.cons (.lit 1) (.cons (.lit 1) (.cons (.lit 1) (.cons (.lit 1) (.cons (.lit 1) (.cons (.lit 1) (.cons (.lit 0) (.cons (.lit 0) (.cons (.lit 0) (.cons (.lit 1) (.cons (.lit 1) (.cons (.lit 1) (.cons (.lit 1) (.cons (.lit 1) (.cons (.lit 1) (.cons (.lit 1) (.cons (.lit 1) (.cons (.lit 1) .nil)))))))))))))))))))))))))))))))))
 (.both (.goal (.app (.app 301 (.cons (.lit 1) (.cons (.lit 1) (.cons (.lit 1) (.cons (.lit 1) (.cons (.lit 1) (.cons (.lit 1) (.cons (.lit 1) (.cons (.lit 1) (.cons (.lit 1) (.cons (.lit 1) (.cons (.lit 1) (.cons (.lit 1) (.cons (.lit 1) (.cons (.lit 1) (.cons (.lit 1) (.cons (.lit 1) (.cons (.lit 1) (.cons (.lit 1) (.cons (.lit 1) (.cons (.lit 1) (.cons (.lit 1) (.cons (.lit 0) (.cons (.lit 0) (.cons (.lit 0) (.cons (.lit 1) (.cons (.lit 1) (.cons (.lit 1) (.cons (.lit 1) (.cons (.lit 1) (.cons (.lit 1) .nil)))))))))))))))))))))))))))))))))
 (.both (.goal (.app (.app 301 (.cons (.lit 1) (.cons (.lit 1) (.cons (.lit 1) (.cons (.lit 1) (.cons (.lit 1) (.cons (.lit 1) (.cons (.lit 1) (.cons (.lit 1) (.cons (.lit 1) (.cons (.lit 1) (.cons (.lit 1) (.cons (.lit 1) (.cons (.lit 1) (.cons (.lit 1) (.cons (.lit 1) (.cons (.lit 1) (.cons (.lit 1) (.cons (.lit 1) (.cons (.lit 1) (.cons (.lit 1) (.cons (.lit 1) (.cons (.lit 0) (.cons (.lit 0) (.cons (.lit 0) (.cons (.lit 1) (.cons (.lit 1) (.cons (.lit 1) (.cons (.lit 1) (.cons (.lit 1) (.cons (.lit 1) .nil)))))))))))))))))))))))))))))))))
 (.both (.goal (.app (.app 301 (.cons (.lit 1) (.cons (.lit 1) (.cons (.lit 1) (.cons (.lit 1) (.cons (.lit 1) (.cons (.lit 1) (.cons (.lit 1) (.cons (.lit 1) (.cons (.lit 1) (.cons (.lit 1) (.cons (.lit 1) (.cons (.lit 1) (.cons (.lit 1) (.cons (.lit 1) (.cons (.lit 1) (.cons (.lit 1) (.cons (.lit 1) (.cons (.lit 1) (.cons (.lit 1) (.cons (.lit 1) (.cons (.lit 1) (.cons (.lit 1) (.cons (.lit 1) (.cons (.lit 1) (.cons (.lit 0) (.cons (.lit 0) (.cons (.lit 0) (.cons (.lit 1) (.cons (.lit 1) (.cons (.lit 1) .nil)))))))))))))))))))))))))))))))))
 (.both (.goal (.app (.app 301 (.cons (.lit 1) (.cons (.lit 1) (.cons (.lit 1) (.cons (.lit 1) (.cons (.lit 1) (.cons (.lit 1) (.cons (.lit 1) (.cons (.lit 1) (.cons (.lit 1) (.cons (.lit 1) (.cons (.lit 1) (.cons (.lit 1) (.cons (.lit 1) (.cons (.lit 1) (.cons (.lit 1) (.cons (.lit 1) (.cons (.lit 1) (.cons (.lit 1) (.cons (.lit 1) (.cons (.lit 1) (.cons (.lit 1) (.cons (.lit 1) (.cons (.lit 1) (.cons (.lit 1) (.cons (.lit 0) (.cons (.lit 0) (.cons (.lit 0) (.cons (.lit 1) (.cons (.lit 1) (.cons (.lit 1) .nil)))))))))))))))))))))))))))))))))
 (.both (.goal (.app (.app 301 (.cons (.lit 1) (.cons (.lit 1) (.cons (.lit 1) (.cons (.lit 1) (.cons (.lit 1) (.cons (.lit 1) (.cons (.lit 1) (.cons (.lit 1) (.cons (.lit 1) (.cons (.lit 1) (.cons (.lit 1) (.cons (.lit 1) (.cons (.lit 1) (.cons (.lit 1) (.cons (.lit 1) (.cons (.lit 1) (.cons (.lit 1) (.cons (.lit 1) (.cons (.lit 1) (.cons (.lit 1) (.cons (.lit 1) (.cons (.lit 1) (.cons (.lit 1) (.cons (.lit 1) (.cons (.lit 1) (.cons (.lit 1) (.cons (.lit 1) (.cons (.lit 0) (.cons (.lit 0) (.cons (.lit 0) .nil)))))))))))))))))))))))))))))))))
 (.goal (.app (.app 301 (.cons (.lit 1) (.cons (.lit 1) (.cons (.lit 1) (.cons (.lit 1) (.cons (.lit 1) (.cons (.lit 1) (.cons (.lit 1) (.cons (.lit 1) (.cons (.lit 1) (.cons (.lit 1) (.cons (.lit 1) (.cons (.lit 1) (.cons (.lit 1) (.cons (.lit 1) (.cons (.lit 1) (.cons (.lit 1) (.cons (.lit 1) (.cons (.lit 1) (.cons (.lit 1) (.cons (.lit 1) (.cons (.lit 1) (.cons (.lit 1) (.cons (.lit 1) (.cons (.lit 1) (.cons (.lit 1) (.cons (.lit 1) (.cons (.lit 1) (.cons (.lit 0) (.cons (.lit 0) (.cons (.lit 0) .nil)))))))))))))))))))))))))))))))))))))))))))))))))))))
set_option maxHeartbeats 8000000 in
theorem ev : finT (gam shs) (evFn Try.prog CL 40 30 7 (symA 0 shs) [] []) = asked := by kernel_rfl
set_option maxHeartbeats 4000000 in
theorem holds (ρ : Env) (hI : ρ.I = CI) (hf : ρ.Fits (gam shs)) : asked.Holds ρ := by
  simp only [asked, NT.Holds, N.denP, E.denB, E.denL, E.den, appI, hI, den_right, Go.Ck.rightL]
  simp [Go.Ck.RightR]

theorem run {vals : Array Value} {all : List Value} (hv : OkAs shs vals.toList all) (W : World) : Calls Try.prog 7 vals W fun e W' => e = .returned (.bool true) ∧ Below W.heap.size W W' :=
  law_true (l := shs) (C := CL) (I := CI) CL_ok ev holds hv W
set_option maxHeartbeats 1000000 in
theorem lifted (os : Os) (started : os.Started) (H : Type) (enc : TypeId × Value → H) :
    ReturnsInHanded {} Try.checked os 7 .any (Rows.checkUnsetSpec.pre6 enc Try.prog Try.f7 Rows.checkUnsetRow.domain false) (Rows.checkUnsetSpec.post enc Try.prog Try.f7 false true false false) := by
  refine returnsInHanded_of_change (C := Try.checked) own started (by kernel_rfl) Try.func7
    (ChangeSpec.witness6 (enc := enc) (C := Try.checked) false ⟨#[], #[.agg #[.int .i64 0, .int .i64 0, .int .i64 0, .int .i64 0, .int .u32 0]], []⟩ 8 (by kernel_rfl) (by kernel_rfl) (by kernel_rfl) (by kernel_rfl)) ?_
  intro W base args ds gs before hval0 hW hcnd _
  have hval : ∀ (j : Nat) t v, Try.f7.params[j]? = some t → args[j]? = some v → Value.okWide Try.prog W .any base t v := hval0
  have hW' := hW
  obtain ⟨p, q, hA0, hV, rfl, hfz, hnd⟩ := hW
  have hA : DataW.TrodAll enc Try.prog W 0 (fun _ => true) true Try.f7.params.toList args.toList ds p := hA0
  rw [Try.params7] at hA hval
  obtain ⟨v0, vs0, d0, ds0, p0, q0, hargs, rfl, rfl, h0, r0⟩ := trodAll_cons hA
  obtain ⟨rfl, rfl, rfl⟩ := trodAll_nil r0
  obtain rfl : args = #[v0] := by cases args; simp_all
  obtain ⟨rfl, rfl⟩ := trodVars_none hV
  have lt0 : ∀ x ∈ p0, x.block < W.heap.size := by obtain ⟨m, hm⟩ := h0; exact DataW.trod_lt m _ _ _ hm
  obtain ⟨c0, o0⟩ := shT_okA (s := .row [some .i64, some .i64, some .i64, some .i64, some .u32]) (by kernel_rfl) (hval 0 33 v0 rfl rfl)
  refine (run (vals := #[v0]) (all := (c0 ++ [])) ⟨v0, _, c0, _, rfl, rfl, o0, rfl, rfl⟩ W).mono fun e W' ⟨he, bel⟩ => ?_
  subst he
  exact ⟨_, rfl, _, _, _, [], _, [], hW', trodAll_mk1 (shut_bool Try.underlying4 _), (trodAll_cons_mk (Below.trod laidOut (by kernel_rfl) (of_decide_eq_true (by kernel_rfl)) h0 bel lt0) trodAll_mk0), rfl, bel.frame _, fun h => by cases h⟩

theorem over : Rows.checkUnsetRow.holds Try.pinned (OpenSpec.ofChange Rows.checkUnsetSpec) :=
  OpenClaim.holds_of_wide 7 Try.f7 rfl rfl rfl rfl rfl rfl rfl ⟨rfl, rfl, rfl, rfl, rfl⟩ rfl rfl rfl rfl rfl (by kernel_rfl) Try.func7 (by kernel_rfl)
    (of_decide_eq_true (by kernel_rfl)) (by unfold Func.isWrapper; first | (rw [if_pos (by decide +kernel)]; kernel_rfl) | (rw [if_neg (by decide +kernel)]; exact ⟨rfl, rfl⟩))
    (fun os started H enc _ => lifted os started H enc)
end Go.Proofs.Ytpamdmikdnoplaa.CheckUnset
namespace Go.Proofs.Ytpamdmikdnoplaa
theorem CheckUnsetProved : Rows.CheckUnsetSaid := CheckUnset.over
#print axioms CheckUnsetProved
end Go.Proofs.Ytpamdmikdnoplaa
