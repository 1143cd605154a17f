/- The law CheckBounds returns true whatever the input, and each argument reads behind the call as it read before; no condition. -/
import Derived.Test.YtpamdmikdnoplaaCkKnown
import Derived.Test.YtpamdmikdnoplaaRows
import Derived.WalkKit
import Derived.ProofKit
import Derived.OpenShut
import Derived.ShutString
import Derived.ChangeOld
import Derived.Below
import Derived.Carry
namespace Go.Proofs.Ytpamdmikdnoplaa.CheckBounds
open Go.ChangeShapes Go.WideShapes Go.ChangeAt Go.RowKit Go.Sx
set_option linter.unusedVariables false
set_option maxRecDepth 100000

theorem own : ownKnob Try.prog.godebug = none := by kernel_rfl
theorem laidOut : laidOutB Try.prog = true := by kernel_rfl
def shs : List Sh := [.row [none, some .u32, some .u32], .one (some .i64), .one (some .i64)]
def asked : NT :=
 (.ite (.ite (.ite (.ite (.ite (.ite (.not (.bvar 0)) (.lit 1) (.lt (.var 2) (.var 1))) (.lit 1) (.lt (.var 3) (.lit (-32768)))) (.lit 1) (.lt (.lit 32767) (.var 3))) (.lit 1) (.lt (.var 4) (.lit 0))) (.lit 1) (.lt (.lit 256) (.var 4)))
 .ok
 (.both (.ite (.not (.ite (.le (.lit (-32768)) (.var 3)) (.le (.var 3) (.lit 32767)) (.lit 0)))
 .bad
 (.ite (.not (.ite (.le (.lit 0) (.wrap .i64 (.add (.var 1) (.var 3)))) (.lt (.wrap .i64 (.add (.var 2) (.var 3))) (.var 4)) (.lit 0)))
 (.ite (.ite (.le (.lit 0) (.wrap .i64 (.add (.var 1) (.var 3)))) (.lt (.wrap .i64 (.add (.var 2) (.var 3))) (.var 4)) (.lit 0))
 .bad
 .ok)
 (.ite (.not (.ite (.le (.lit 0) (.wrap .i64 (.add (.var 1) (.var 3)))) (.lt (.wrap .i64 (.add (.var 2) (.var 3))) (.var 4)) (.lit 0)))
 .bad
 .ok)))
 (.both (.ite (.not (.ite (.le (.lit (-32768)) (.var 3)) (.le (.var 3) (.lit 32767)) (.lit 0)))
 .bad
 (.ite (.not (.ite (.le (.lit 0) (.wrap .i64 (.add (.var 1) (.var 3)))) (.lt (.wrap .i64 (.add (.var 2) (.var 3))) (.lit 64)) (.lit 0)))
 (.ite (.ite (.le (.lit 0) (.wrap .i64 (.add (.var 1) (.var 3)))) (.lt (.wrap .i64 (.add (.var 2) (.var 3))) (.lit 64)) (.lit 0))
 .bad
 .ok)
 (.ite (.not (.ite (.le (.lit 0) (.wrap .i64 (.add (.var 1) (.var 3)))) (.lt (.wrap .i64 (.add (.var 2) (.var 3))) (.lit 64)) (.lit 0)))
 .bad
 .ok)))
 (.ite (.not (.ite (.le (.lit (-32768)) (.var 3)) (.le (.var 3) (.lit 32767)) (.lit 0)))
 .bad
 (.ite (.not (.ite (.le (.lit 0) (.wrap .i64 (.add (.var 1) (.var 3)))) (.lt (.wrap .i64 (.add (.var 2) (.var 3))) (.lit 64)) (.lit 0)))
 (.ite (.ite (.le (.lit 0) (.wrap .i64 (.add (.var 1) (.var 3)))) (.lt (.wrap .i64 (.add (.var 2) (.var 3))) (.lit 64)) (.lit 0))
 .bad
 .ok)
 (.ite (.not (.ite (.le (.lit 0) (.wrap .i64 (.add (.var 1) (.var 3)))) (.lt (.wrap .i64 (.add (.var 2) (.var 3))) (.lit 64)) (.lit 0)))
 .bad
 .ok))))))
set_option maxHeartbeats 8000000 in
theorem ev : finT (gam shs) (evFn Try.prog C0 20 30 5 (symA 0 shs) [] []) = asked := by kernel_rfl
theorem holds (ρ : Env) (hI : ρ.I = noI) (hf : ρ.Fits (gam shs)) : asked.Holds ρ := by
  have h1 := hf 1 0 4294967295 rfl
  have h2 := hf 2 0 4294967295 rfl
  simp only [asked, NT.Holds, N.denP, N.den]
  generalize ρ.i 1 = a at *
  generalize ρ.i 2 = b at *
  generalize ρ.i 3 = o at *
  generalize ρ.i 4 = c at *
  refine ⟨fun _ => trivial, fun hg => ?_⟩
  have ho : -32768 ≤ o ∧ o ≤ 32767 := by
    simp at hg
    omega
  rw [wrap_fits (k := .i64) (x := a + o) (by simp [IntKind.min, IntKind.signed, IntKind.bits]; omega) (by simp [IntKind.max, IntKind.signed, IntKind.bits]; omega)]
  rw [wrap_fits (k := .i64) (x := b + o) (by simp [IntKind.min, IntKind.signed, IntKind.bits]; omega) (by simp [IntKind.max, IntKind.signed, IntKind.bits]; omega)]
  simp
  omega

set_option maxHeartbeats 1000000 in
theorem lifted (os : Os) (started : os.Started) (H : Type) (enc : TypeId × Value → H) :
    ReturnsInHanded {} Try.checked os 5 .any (Rows.checkBoundsSpec.pre6 enc Try.prog Try.f5 Rows.checkBoundsRow.domain false) (Rows.checkBoundsSpec.post enc Try.prog Try.f5 false true false false) := by
  refine returnsInHanded_of_change (C := Try.checked) own started (by kernel_rfl) Try.func5
    (ChangeSpec.witness6 (enc := enc) (C := Try.checked) false ⟨#[], #[.agg #[.bool false, .int .u32 0, .int .u32 0], .int .i64 0, .int .i64 0], []⟩ 8 (by kernel_rfl) (by kernel_rfl) (by kernel_rfl) (by kernel_rfl)) ?_
  intro W base args ds gs before hval0 hW hcnd _
  have hval : ∀ (j : Nat) t v, Try.f5.params[j]? = some t → args[j]? = some v → Value.okWide Try.prog W .any base t v := hval0
  have hW' := hW
  obtain ⟨p, q, hA0, hV, rfl, hfz, hnd⟩ := hW
  have hA : DataW.TrodAll enc Try.prog W 0 (fun _ => true) true Try.f5.params.toList args.toList ds p := hA0
  rw [Try.params5] at hA hval
  obtain ⟨v0, vs0, d0, ds0, p0, q0, hargs, rfl, rfl, h0, r0⟩ := trodAll_cons hA
  obtain ⟨v1, vs1, d1, ds1, p1, q1, rfl, rfl, rfl, h1, r1⟩ := trodAll_cons r0
  obtain ⟨v2, vs2, d2, ds2, p2, q2, rfl, rfl, rfl, h2, r2⟩ := trodAll_cons r1
  obtain ⟨rfl, rfl, rfl⟩ := trodAll_nil r2
  obtain rfl : args = #[v0, v1, v2] := by cases args; simp_all
  obtain ⟨rfl, rfl⟩ := trodVars_none hV
  have lt0 : ∀ x ∈ p0, x.block < W.heap.size := by obtain ⟨m, hm⟩ := h0; exact DataW.trod_lt m _ _ _ hm
  obtain ⟨c0, o0⟩ := shT_okA (s := .row [none, some .u32, some .u32]) (by kernel_rfl) (hval 0 24 v0 rfl rfl)
  have lt1 : ∀ x ∈ p1, x.block < W.heap.size := by obtain ⟨m, hm⟩ := h1; exact DataW.trod_lt m _ _ _ hm
  obtain ⟨c1, o1⟩ := shT_okA (s := .one (some .i64)) (by kernel_rfl) (hval 1 3 v1 rfl rfl)
  have lt2 : ∀ x ∈ p2, x.block < W.heap.size := by obtain ⟨m, hm⟩ := h2; exact DataW.trod_lt m _ _ _ hm
  obtain ⟨c2, o2⟩ := shT_okA (s := .one (some .i64)) (by kernel_rfl) (hval 2 3 v2 rfl rfl)
  refine (law_true (l := shs) (C := C0) (I := noI) (fun ρ _ => C0_ok ρ) ev holds (vals := #[v0, v1, v2]) (all := (c0 ++ (c1 ++ (c2 ++ [])))) ⟨v0, _, c0, _, rfl, rfl, o0, v1, _, c1, _, rfl, rfl, o1, v2, _, c2, _, rfl, rfl, o2, rfl, rfl⟩ W).mono fun e W' ⟨he, bel⟩ => ?_
  subst he
  exact ⟨_, rfl, _, _, _, [], _, [], hW', trodAll_mk1 (shut_bool Try.underlying4 _), (trodAll_cons_mk (Below.trod laidOut (by kernel_rfl) (of_decide_eq_true (by kernel_rfl)) h0 bel lt0) (trodAll_cons_mk (Below.trod laidOut (by kernel_rfl) (of_decide_eq_true (by kernel_rfl)) h1 bel lt1) (trodAll_cons_mk (Below.trod laidOut (by kernel_rfl) (of_decide_eq_true (by kernel_rfl)) h2 bel lt2) trodAll_mk0))), rfl, bel.frame _, fun h => by cases h⟩

theorem over : Rows.checkBoundsRow.holds Try.pinned (OpenSpec.ofChange Rows.checkBoundsSpec) :=
  OpenClaim.holds_of_wide 5 Try.f5 rfl rfl rfl rfl rfl rfl rfl ⟨rfl, rfl, rfl, rfl, rfl⟩ rfl rfl rfl rfl rfl (by kernel_rfl) Try.func5 (by kernel_rfl)
    (of_decide_eq_true (by kernel_rfl)) (by unfold Func.isWrapper; first | (rw [if_pos (by decide +kernel)]; kernel_rfl) | (rw [if_neg (by decide +kernel)]; exact ⟨rfl, rfl⟩))
    (fun os started H enc _ => lifted os started H enc)
end Go.Proofs.Ytpamdmikdnoplaa.CheckBounds
namespace Go.Proofs.Ytpamdmikdnoplaa
theorem CheckBoundsProved : Rows.CheckBoundsSaid := CheckBounds.over
#print axioms CheckBoundsProved
end Go.Proofs.Ytpamdmikdnoplaa
