/- The law CheckWays returns true whatever the input, and each argument reads behind the call as it read before; no condition. -/
import Derived.Test.YtpamdmikdnoplaaCkKnown
import Derived.Test.YtpamdmikdnoplaaRows
import Derived.WalkKit
import Derived.ProofKit
import Derived.OpenShut
import Derived.ShutString
import Derived.ChangeOld
import Derived.Below
import Derived.Carry
namespace Go.Proofs.Ytpamdmikdnoplaa.CheckWays
open Go.ChangeShapes Go.WideShapes Go.ChangeAt Go.RowKit Go.Sx
set_option linter.unusedVariables false
set_option maxRecDepth 100000

theorem own : ownKnob Try.prog.godebug = none := by kernel_rfl
theorem laidOut : laidOutB Try.prog = true := by kernel_rfl
def shs : List Sh := [.one (some .u32), .one (some .u32), .row [none, none]]
/- The four cases, of two truth values. -/
def asB (b : Bool) : SV := .bool (if b then tt else ff)
def asW (x y : Bool) : List SV := [.int .u32 (.var 0), .int .u32 (.var 1), .agg (.ofL [asB x, asB y])]
def one : NT := .ite (.lt (.var 0) (.var 0)) .bad .ok
def asked : NT := .ite (.lt (.var 0) (.var 0))
 .bad
 (.ite (.lt (.ite (.lt (.var 0) (.var 1)) (.var 1) (.var 0)) (.ite (.lt (.var 1) (.var 0)) (.var 1) (.var 0)))
 .bad
 (.ite (.ite (.eq (.ite (.lt (.var 1) (.var 0)) (.var 1) (.var 0)) (.ite (.lt (.var 1) (.var 0)) (.var 1) (.var 0))) (.eq (.ite (.lt (.var 0) (.var 1)) (.var 1) (.var 0)) (.ite (.lt (.var 0) (.var 1)) (.var 1) (.var 0))) (.lit 0))
 .ok
 .bad))
set_option maxHeartbeats 8000000 in
theorem ev00 : finT (gam shs) (evFn Try.prog C0 20 30 9 (asW false false) [] []) = one := by kernel_rfl
set_option maxHeartbeats 8000000 in
theorem ev01 : finT (gam shs) (evFn Try.prog C0 20 30 9 (asW false true) [] []) = one := by kernel_rfl
set_option maxHeartbeats 8000000 in
theorem ev10 : finT (gam shs) (evFn Try.prog C0 20 30 9 (asW true false) [] []) = one := by kernel_rfl
set_option maxHeartbeats 8000000 in
theorem ev11 : finT (gam shs) (evFn Try.prog C0 20 30 9 (asW true true) [] []) = asked := by kernel_rfl
theorem one_holds (ρ : Env) : one.Holds ρ := by
  simp only [one, NT.Holds, N.denP, N.den]
  exact ⟨fun h => absurd h (Int.lt_irrefl _), fun _ => trivial⟩
theorem holds (ρ : Env) : asked.Holds ρ := by
  simp only [asked, NT.Holds, N.denP, N.den]
  generalize ρ.i 0 = a
  generalize ρ.i 1 = b
  have f1 := cif_or (a < b) b a
  have f2 := cif_or (b < a) b a
  generalize cif (a < b) b a = x at *
  generalize cif (b < a) b a = y at *
  refine ⟨by omega, fun _ => ⟨by omega, fun _ => ⟨fun _ => trivial, fun h => ?_⟩⟩⟩
  exact h ⟨fun _ => trivial, fun h => absurd trivial h⟩
theorem run {vals : Array Value} {all : List Value} (hv : OkAs shs vals.toList all) (W : World) : Calls Try.prog 9 vals W fun e W' => e = .returned (.bool true) ∧ Below W.heap.size W W' := by
  rcases vals with ⟨l⟩
  have hf : (envOf noI all).Fits (gam shs) := fun j lo hi h => okAs_fits hv j lo hi h
  change OkAs shs l all at hv
  have hr : RelL (envOf noI all) [] (symA 0 shs) l := symA_rel (I := noI) (β := []) [] hv
  obtain ⟨v0, r0, rfl, h0, v1, r1, rfl, h1, v2, r2, rfl, h2, hn⟩ := hr
  obtain ⟨w0, q0, cs0, t0, e0, _, _, w1, q1, cs1, t1, e1, _, _, w2, q2, cs2, t2, e2, _, ⟨hw2, a, s, rfl, ⟨x, rfl⟩, b, s', rfl, ⟨y, rfl⟩, hs'⟩, _⟩ := hv
  simp only [Typed] at hs'
  subst hs'
  simp only [List.cons.injEq] at e0 e1 e2
  obtain ⟨rfl, rfl⟩ := e0
  obtain ⟨rfl, rfl⟩ := e1
  obtain ⟨rfl, rfl⟩ := e2
  have hn' : r2 = [] := hn
  subst hn'
  have hrel : RelL (envOf noI all) [] (asW x y) [v0, v1, v2] := by
    refine ⟨_, _, rfl, h0, _, _, rfl, h1, _, _, rfl, ?_, rfl⟩
    refine ⟨[.bool x, .bool y], ⟨_, _, rfl, ?_, _, _, rfl, ?_, rfl⟩, hw2⟩
    · cases x <;> simp [asB, SV.rel, tt, ff, E.denB]
    · cases y <;> simp [asB, SV.rel, tt, ff, E.denB]
  cases x <;> cases y
  · exact true_of (P := Try.prog) (C := C0) (ρ := envOf noI all) (N := 20) (n := 30) (f := 9) (sas := asW false false) (Γ := gam shs) (T := one) (C0_ok _) ev00 hf (one_holds _) hrel W
  · exact true_of (P := Try.prog) (C := C0) (ρ := envOf noI all) (N := 20) (n := 30) (f := 9) (sas := asW false true) (Γ := gam shs) (T := one) (C0_ok _) ev01 hf (one_holds _) hrel W
  · exact true_of (P := Try.prog) (C := C0) (ρ := envOf noI all) (N := 20) (n := 30) (f := 9) (sas := asW true false) (Γ := gam shs) (T := one) (C0_ok _) ev10 hf (one_holds _) hrel W
  · exact true_of (P := Try.prog) (C := C0) (ρ := envOf noI all) (N := 20) (n := 30) (f := 9) (sas := asW true true) (Γ := gam shs) (T := asked) (C0_ok _) ev11 hf (holds _) hrel W

set_option maxHeartbeats 1000000 in
theorem lifted (os : Os) (started : os.Started) (H : Type) (enc : TypeId × Value → H) :
    ReturnsInHanded {} Try.checked os 9 .any (Rows.checkWaysSpec.pre6 enc Try.prog Try.f9 Rows.checkWaysRow.domain false) (Rows.checkWaysSpec.post enc Try.prog Try.f9 false true false false) := by
  refine returnsInHanded_of_change (C := Try.checked) own started (by kernel_rfl) Try.func9
    (ChangeSpec.witness6 (enc := enc) (C := Try.checked) false ⟨#[], #[.int .u32 0, .int .u32 0, .agg #[.bool false, .bool false]], []⟩ 8 (by kernel_rfl) (by kernel_rfl) (by kernel_rfl) (by kernel_rfl)) ?_
  intro W base args ds gs before hval0 hW hcnd _
  have hval : ∀ (j : Nat) t v, Try.f9.params[j]? = some t → args[j]? = some v → Value.okWide Try.prog W .any base t v := hval0
  have hW' := hW
  obtain ⟨p, q, hA0, hV, rfl, hfz, hnd⟩ := hW
  have hA : DataW.TrodAll enc Try.prog W 0 (fun _ => true) true Try.f9.params.toList args.toList ds p := hA0
  rw [Try.params9] at hA hval
  obtain ⟨v0, vs0, d0, ds0, p0, q0, hargs, rfl, rfl, h0, r0⟩ := trodAll_cons hA
  obtain ⟨v1, vs1, d1, ds1, p1, q1, rfl, rfl, rfl, h1, r1⟩ := trodAll_cons r0
  obtain ⟨v2, vs2, d2, ds2, p2, q2, rfl, rfl, rfl, h2, r2⟩ := trodAll_cons r1
  obtain ⟨rfl, rfl, rfl⟩ := trodAll_nil r2
  obtain rfl : args = #[v0, v1, v2] := by cases args; simp_all
  obtain ⟨rfl, rfl⟩ := trodVars_none hV
  have lt0 : ∀ x ∈ p0, x.block < W.heap.size := by obtain ⟨m, hm⟩ := h0; exact DataW.trod_lt m _ _ _ hm
  obtain ⟨c0, o0⟩ := shT_okA (s := .one (some .u32)) (by kernel_rfl) (hval 0 22 v0 rfl rfl)
  have lt1 : ∀ x ∈ p1, x.block < W.heap.size := by obtain ⟨m, hm⟩ := h1; exact DataW.trod_lt m _ _ _ hm
  obtain ⟨c1, o1⟩ := shT_okA (s := .one (some .u32)) (by kernel_rfl) (hval 1 22 v1 rfl rfl)
  have lt2 : ∀ x ∈ p2, x.block < W.heap.size := by obtain ⟨m, hm⟩ := h2; exact DataW.trod_lt m _ _ _ hm
  obtain ⟨c2, o2⟩ := shT_okA (s := .row [none, none]) (by kernel_rfl) (hval 2 61 v2 rfl rfl)
  refine (run (vals := #[v0, v1, v2]) (all := (c0 ++ (c1 ++ (c2 ++ [])))) ⟨v0, _, c0, _, rfl, rfl, o0, v1, _, c1, _, rfl, rfl, o1, v2, _, c2, _, rfl, rfl, o2, rfl, rfl⟩ W).mono fun e W' ⟨he, bel⟩ => ?_
  subst he
  exact ⟨_, rfl, _, _, _, [], _, [], hW', trodAll_mk1 (shut_bool Try.underlying4 _), (trodAll_cons_mk (Below.trod laidOut (by kernel_rfl) (of_decide_eq_true (by kernel_rfl)) h0 bel lt0) (trodAll_cons_mk (Below.trod laidOut (by kernel_rfl) (of_decide_eq_true (by kernel_rfl)) h1 bel lt1) (trodAll_cons_mk (Below.trod laidOut (by kernel_rfl) (of_decide_eq_true (by kernel_rfl)) h2 bel lt2) trodAll_mk0))), rfl, bel.frame _, fun h => by cases h⟩

theorem over : Rows.checkWaysRow.holds Try.pinned (OpenSpec.ofChange Rows.checkWaysSpec) :=
  OpenClaim.holds_of_wide 9 Try.f9 rfl rfl rfl rfl rfl rfl rfl ⟨rfl, rfl, rfl, rfl, rfl⟩ rfl rfl rfl rfl rfl (by kernel_rfl) Try.func9 (by kernel_rfl)
    (of_decide_eq_true (by kernel_rfl)) (by unfold Func.isWrapper; first | (rw [if_pos (by decide +kernel)]; kernel_rfl) | (rw [if_neg (by decide +kernel)]; exact ⟨rfl, rfl⟩))
    (fun os started H enc _ => lifted os started H enc)
end Go.Proofs.Ytpamdmikdnoplaa.CheckWays
namespace Go.Proofs.Ytpamdmikdnoplaa
theorem CheckWaysProved : Rows.CheckWaysSaid := CheckWays.over
#print axioms CheckWaysProved
end Go.Proofs.Ytpamdmikdnoplaa
