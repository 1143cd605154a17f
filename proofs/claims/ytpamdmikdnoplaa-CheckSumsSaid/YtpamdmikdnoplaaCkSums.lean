/- The law CheckSums returns true whatever the input, and each argument reads behind the call as it read before; no condition. -/
import Derived.Test.YtpamdmikdnoplaaCkLen
import Derived.Test.YtpamdmikdnoplaaCkArith
import Derived.Test.YtpamdmikdnoplaaRows
import Derived.WalkKit
import Derived.ProofKit
import Derived.OpenShut
import Derived.ShutString
import Derived.ChangeOld
import Derived.Below
import Derived.Carry
namespace Go.Proofs.Ytpamdmikdnoplaa.CheckSums
open Go.ChangeShapes Go.WideShapes Go.ChangeAt Go.RowKit Go.Sx
set_option linter.unusedVariables false
set_option maxRecDepth 100000

theorem own : ownKnob Try.prog.godebug = none := by kernel_rfl
theorem laidOut : laidOutB Try.prog = true := by kernel_rfl
def shs : List Sh := [.row [none, some .u32, some .u32], .row [none, some .u32, some .u32], .row [some .u32, some .u32]]
def asked : NT :=
 (.ite (.ite (.ite (.ite (.not (.bvar 0)) (.lit 1) (.not (.bvar 3))) (.lit 1) (.lt (.var 2) (.var 1))) (.lit 1) (.lt (.var 5) (.var 4)))
 .ok
 (.both (.goal (.not (.eq (.add (.sub (.var 2) (.var 1)) (.lit 1)) (.lit 0))))
 (.both (.goal (.not (.eq (.add (.sub (.var 5) (.var 4)) (.lit 1)) (.lit 0))))
 (.ite (.ite (.lt (.wrap .u32 (.wrap .i64 (.add (.var 4) (.bin .rem .i64 (.var 7) (.add (.sub (.var 5) (.var 4)) (.lit 1)))))) (.var 4)) (.lit 1) (.lt (.var 5) (.wrap .u32 (.wrap .i64 (.add (.var 4) (.bin .rem .i64 (.var 7) (.add (.sub (.var 5) (.var 4)) (.lit 1))))))))
 .bad
 (.both (.ite (.lt (.lit 4294967295) (.add (.var 2) (.var 5)))
 .ok
 (.ite (.ite (.lt (.mod (.add (.wrap .u32 (.wrap .i64 (.add (.var 1) (.bin .rem .i64 (.var 6) (.add (.sub (.var 2) (.var 1)) (.lit 1)))))) (.wrap .u32 (.wrap .i64 (.add (.var 4) (.bin .rem .i64 (.var 7) (.add (.sub (.var 5) (.var 4)) (.lit 1))))))) (.lit 4294967296)) (.wrap .u32 (.add (.var 1) (.var 4)))) (.lit 1) (.lt (.wrap .u32 (.add (.var 2) (.var 5))) (.mod (.add (.wrap .u32 (.wrap .i64 (.add (.var 1) (.bin .rem .i64 (.var 6) (.add (.sub (.var 2) (.var 1)) (.lit 1)))))) (.wrap .u32 (.wrap .i64 (.add (.var 4) (.bin .rem .i64 (.var 7) (.add (.sub (.var 5) (.var 4)) (.lit 1))))))) (.lit 4294967296))))
 .bad
 .ok))
 (.both (.ite (.lt (.var 1) (.var 5))
 .ok
 (.ite (.ite (.lt (.mod (.sub (.add (.wrap .u32 (.wrap .i64 (.add (.var 1) (.bin .rem .i64 (.var 6) (.add (.sub (.var 2) (.var 1)) (.lit 1)))))) (.lit 4294967296)) (.wrap .u32 (.wrap .i64 (.add (.var 4) (.bin .rem .i64 (.var 7) (.add (.sub (.var 5) (.var 4)) (.lit 1))))))) (.lit 4294967296)) (.wrap .u32 (.wrap .u64 (.sub (.var 1) (.var 5))))) (.lit 1) (.lt (.wrap .u32 (.wrap .u64 (.sub (.var 2) (.var 4)))) (.mod (.sub (.add (.wrap .u32 (.wrap .i64 (.add (.var 1) (.bin .rem .i64 (.var 6) (.add (.sub (.var 2) (.var 1)) (.lit 1)))))) (.lit 4294967296)) (.wrap .u32 (.wrap .i64 (.add (.var 4) (.bin .rem .i64 (.var 7) (.add (.sub (.var 5) (.var 4)) (.lit 1))))))) (.lit 4294967296))))
 .bad
 .ok))
 (.both (.ite (.lt (.lit 4294967295) (.mul (.var 2) (.var 5)))
 .ok
 (.ite (.ite (.lt (.wrap .u32 (.bin .rem .i64 (.wrap .i64 (.add (.wrap .i64 (.mul (.bin .rem .i64 (.wrap .i64 (.mul (.div (.wrap .u32 (.wrap .i64 (.add (.var 1) (.bin .rem .i64 (.var 6) (.add (.sub (.var 2) (.var 1)) (.lit 1)))))) (.lit 65536)) (.wrap .u32 (.wrap .i64 (.add (.var 4) (.bin .rem .i64 (.var 7) (.add (.sub (.var 5) (.var 4)) (.lit 1)))))))) (.lit 4294967296)) (.lit 65536))) (.mul (.mod (.wrap .u32 (.wrap .i64 (.add (.var 1) (.bin .rem .i64 (.var 6) (.add (.sub (.var 2) (.var 1)) (.lit 1)))))) (.lit 65536)) (.wrap .u32 (.wrap .i64 (.add (.var 4) (.bin .rem .i64 (.var 7) (.add (.sub (.var 5) (.var 4)) (.lit 1))))))))) (.lit 4294967296))) (.wrap .u32 (.mul (.var 1) (.var 4)))) (.lit 1) (.lt (.wrap .u32 (.mul (.var 2) (.var 5))) (.wrap .u32 (.bin .rem .i64 (.wrap .i64 (.add (.wrap .i64 (.mul (.bin .rem .i64 (.wrap .i64 (.mul (.div (.wrap .u32 (.wrap .i64 (.add (.var 1) (.bin .rem .i64 (.var 6) (.add (.sub (.var 2) (.var 1)) (.lit 1)))))) (.lit 65536)) (.wrap .u32 (.wrap .i64 (.add (.var 4) (.bin .rem .i64 (.var 7) (.add (.sub (.var 5) (.var 4)) (.lit 1)))))))) (.lit 4294967296)) (.lit 65536))) (.mul (.mod (.wrap .u32 (.wrap .i64 (.add (.var 1) (.bin .rem .i64 (.var 6) (.add (.sub (.var 2) (.var 1)) (.lit 1)))))) (.lit 65536)) (.wrap .u32 (.wrap .i64 (.add (.var 4) (.bin .rem .i64 (.var 7) (.add (.sub (.var 5) (.var 4)) (.lit 1))))))))) (.lit 4294967296)))))
 .bad
 .ok))
 (.ite (.lt (.ite (.lt (.var 5) (.var 2)) (.var 5) (.var 2)) (.bin .and .u32 (.wrap .u32 (.wrap .i64 (.add (.var 1) (.bin .rem .i64 (.var 6) (.add (.sub (.var 2) (.var 1)) (.lit 1)))))) (.wrap .u32 (.wrap .i64 (.add (.var 4) (.bin .rem .i64 (.var 7) (.add (.sub (.var 5) (.var 4)) (.lit 1))))))))
 .bad
 (.both (.goal (.le (.lit 0) (.app (.app 64 (.cons (.ite (.lt (.wrap .u64 (.var 2)) (.wrap .u64 (.var 5))) (.wrap .u64 (.var 5)) (.wrap .u64 (.var 2))) .nil)))))
 (.ite (.ite (.lt (.bin .or .u32 (.wrap .u32 (.wrap .i64 (.add (.var 1) (.bin .rem .i64 (.var 6) (.add (.sub (.var 2) (.var 1)) (.lit 1)))))) (.wrap .u32 (.wrap .i64 (.add (.var 4) (.bin .rem .i64 (.var 7) (.add (.sub (.var 5) (.var 4)) (.lit 1))))))) (.ite (.lt (.var 1) (.var 4)) (.var 4) (.var 1))) (.lit 1) (.lt (.wrap .u32 (.wrap .u64 (.sub (.bin .shl .u64 (.lit 1) (.app (.app 64 (.cons (.ite (.lt (.wrap .u64 (.var 2)) (.wrap .u64 (.var 5))) (.wrap .u64 (.var 5)) (.wrap .u64 (.var 2))) .nil)))) (.lit 1)))) (.bin .or .u32 (.wrap .u32 (.wrap .i64 (.add (.var 1) (.bin .rem .i64 (.var 6) (.add (.sub (.var 2) (.var 1)) (.lit 1)))))) (.wrap .u32 (.wrap .i64 (.add (.var 4) (.bin .rem .i64 (.var 7) (.add (.sub (.var 5) (.var 4)) (.lit 1)))))))))
 .bad
 (.both (.goal (.le (.lit 0) (.app (.app 64 (.cons (.ite (.lt (.wrap .u64 (.var 2)) (.wrap .u64 (.var 5))) (.wrap .u64 (.var 5)) (.wrap .u64 (.var 2))) .nil)))))
 (.ite (.lt (.wrap .u32 (.wrap .u64 (.sub (.bin .shl .u64 (.lit 1) (.app (.app 64 (.cons (.ite (.lt (.wrap .u64 (.var 2)) (.wrap .u64 (.var 5))) (.wrap .u64 (.var 5)) (.wrap .u64 (.var 2))) .nil)))) (.lit 1)))) (.bin .xor .u32 (.wrap .u32 (.wrap .i64 (.add (.var 1) (.bin .rem .i64 (.var 6) (.add (.sub (.var 2) (.var 1)) (.lit 1)))))) (.wrap .u32 (.wrap .i64 (.add (.var 4) (.bin .rem .i64 (.var 7) (.add (.sub (.var 5) (.var 4)) (.lit 1))))))))
 .bad
 (.both (.ite (.not (.lt (.lit 0) (.var 4)))
 (.ite (.eq (.var 4) (.lit 0))
 .ok
 (.both (.goal (.not (.eq (.wrap .u32 (.wrap .i64 (.add (.var 4) (.bin .rem .i64 (.var 7) (.add (.sub (.var 5) (.var 4)) (.lit 1)))))) (.lit 0))))
 .bad))
 (.both (.goal (.not (.eq (.var 5) (.lit 0))))
 (.both (.goal (.not (.eq (.var 4) (.lit 0))))
 (.ite (.eq (.var 4) (.lit 0))
 .bad
 (.both (.goal (.not (.eq (.wrap .u32 (.wrap .i64 (.add (.var 4) (.bin .rem .i64 (.var 7) (.add (.sub (.var 5) (.var 4)) (.lit 1)))))) (.lit 0))))
 (.ite (.ite (.lt (.bin .quo .u32 (.wrap .u32 (.wrap .i64 (.add (.var 1) (.bin .rem .i64 (.var 6) (.add (.sub (.var 2) (.var 1)) (.lit 1)))))) (.wrap .u32 (.wrap .i64 (.add (.var 4) (.bin .rem .i64 (.var 7) (.add (.sub (.var 5) (.var 4)) (.lit 1))))))) (.wrap .u32 (.bin .quo .u64 (.var 1) (.var 5)))) (.lit 1) (.lt (.wrap .u32 (.bin .quo .u64 (.var 2) (.var 4))) (.bin .quo .u32 (.wrap .u32 (.wrap .i64 (.add (.var 1) (.bin .rem .i64 (.var 6) (.add (.sub (.var 2) (.var 1)) (.lit 1)))))) (.wrap .u32 (.wrap .i64 (.add (.var 4) (.bin .rem .i64 (.var 7) (.add (.sub (.var 5) (.var 4)) (.lit 1)))))))))
 .bad
 .ok))))))
 (.ite (.not (.lt (.lit 0) (.var 4)))
 (.ite (.eq (.var 4) (.lit 0))
 .ok
 (.both (.goal (.not (.eq (.wrap .u32 (.wrap .i64 (.add (.var 4) (.bin .rem .i64 (.var 7) (.add (.sub (.var 5) (.var 4)) (.lit 1)))))) (.lit 0))))
 .bad))
 (.ite (.eq (.var 4) (.lit 0))
 .bad
 (.both (.goal (.not (.eq (.wrap .u32 (.wrap .i64 (.add (.var 4) (.bin .rem .i64 (.var 7) (.add (.sub (.var 5) (.var 4)) (.lit 1)))))) (.lit 0))))
 (.ite (.ite (.lt (.wrap .i64 (.bin .rem .u32 (.wrap .u32 (.wrap .i64 (.add (.var 1) (.bin .rem .i64 (.var 6) (.add (.sub (.var 2) (.var 1)) (.lit 1)))))) (.wrap .u32 (.wrap .i64 (.add (.var 4) (.bin .rem .i64 (.var 7) (.add (.sub (.var 5) (.var 4)) (.lit 1)))))))) (.lit 0)) (.lit 1) (.lt (.wrap .u32 (.ite (.lt (.wrap .u64 (.sub (.var 5) (.lit 1))) (.var 2)) (.wrap .u64 (.sub (.var 5) (.lit 1))) (.var 2))) (.wrap .i64 (.bin .rem .u32 (.wrap .u32 (.wrap .i64 (.add (.var 1) (.bin .rem .i64 (.var 6) (.add (.sub (.var 2) (.var 1)) (.lit 1)))))) (.wrap .u32 (.wrap .i64 (.add (.var 4) (.bin .rem .i64 (.var 7) (.add (.sub (.var 5) (.var 4)) (.lit 1))))))))))
 .bad
 .ok)))))))))))))))))
set_option maxHeartbeats 8000000 in
theorem ev : finT (gam shs) (evFn Try.prog C1 20 30 3 (symA 0 shs) [] []) = asked := by kernel_rfl
set_option maxHeartbeats 8000000 in
theorem holds (ρ : Env) (hI : ρ.I = lenI) (hf : ρ.Fits (gam shs)) : asked.Holds ρ := by
  have h1 := hf 1 0 4294967295 rfl
  have h2 := hf 2 0 4294967295 rfl
  have h4 := hf 4 0 4294967295 rfl
  have h5 := hf 5 0 4294967295 rfl
  have h6 := hf 6 0 4294967295 rfl
  have h7 := hf 7 0 4294967295 rfl
  have hlt : E.denB ρ ((E.wrap IntKind.u64 (E.var 2)).lt (E.wrap IntKind.u64 (E.var 5))) = decide (IntKind.u64.wrap (ρ.i 2) < IntKind.u64.wrap (ρ.i 5)) := decide_eq_decide.2 Iff.rfl
  simp only [asked, NT.Holds, N.denP, N.den, E.den, E.denL, hI]
  generalize ρ.i 1 = dl at *
  generalize ρ.i 2 = dg at *
  generalize ρ.i 4 = sl at *
  generalize ρ.i 5 = sg at *
  generalize ρ.i 6 = n at *
  generalize ρ.i 7 = m at *
  refine ⟨fun _ => trivial, fun hg => ?_⟩
  have ho : dl ≤ dg ∧ sl ≤ sg := by
    simp at hg
    omega
  clear hg
  have ha := word_in (l := dl) (g := dg) (n := n) h1.1 ho.1 h2.2 h6.1
  have hb := word_in (l := sl) (g := sg) (n := m) h4.1 ho.2 h5.2 h7.1
  generalize IntKind.u32.wrap (IntKind.i64.wrap (dl + arith .rem .i64 n (dg - dl + 1))) = a at *
  generalize IntKind.u32.wrap (IntKind.i64.wrap (sl + arith .rem .i64 m (sg - sl + 1))) = b at *
  clear h6 h7 hf hI
  have hd : E.denB ρ ((E.wrap IntKind.u64 (E.var 2)).lt (E.wrap IntKind.u64 (E.var 5))) = decide (IntKind.u64.wrap dg < IntKind.u64.wrap sg) := hlt
  rw [hd]
  clear hd hlt
  rw [fits_u64 (x := dg) (by omega) (by omega), fits_u64 (x := sg) (by omega) (by omega)]
  have hm : ∃ x : Int, (if decide (dg < sg) = true then sg else dg) = x ∧ dg ≤ x ∧ sg ≤ x ∧ x ≤ 4294967295 := by
    refine ⟨_, rfl, ?_, ?_, ?_⟩ <;> (split <;> simp_all <;> omega)
  obtain ⟨x, hx, x1, x2, x3⟩ := hm
  rw [hx]
  clear hx
  obtain ⟨k, k1, k2, k3, k4⟩ := ones_word (x := x) (by omega) x3
  have o1 := or_ge (a := a) (b := b) (by omega) (by omega) (by omega) (by omega)
  have o2 := or_lt (a := a) (b := b) (k := k) (by omega) (by omega) (by omega) (by omega) (by omega) (by omega)
  have o3 := xor_lt (a := a) (b := b) (k := k) (by omega) (by omega) (by omega) (by omega) (by omega) (by omega)
  have o4 := and_le (a := a) (b := b) (by omega) (by omega) (by omega) (by omega)
  have o5 := fun h => mul_word' (a := a) (b := b) (dl := dl) (dg := dg) (sl := sl) (sg := sg) h1.1 h4.1 ha hb h
  have o6 := fun h => quo_word (a := a) (b := b) (dl := dl) (dg := dg) (sl := sl) (sg := sg) h1.1 h2.2 h h5.2 ha hb
  have o7 := fun h => rem_word (a := a) (b := b) (dg := dg) (sg := sg) (by omega) h2.2 h h5.2
  have o8 := fun h => add_word (a := a) (b := b) (dl := dl) (dg := dg) (sl := sl) (sg := sg) h1.1 h4.1 ha hb h
  have o9 := fun h => sub_word (a := a) (b := b) (dl := dl) (dg := dg) (sl := sl) (sg := sg) h2.2 h4.1 ha hb h
  have k5 : lenI 64 [x] = k := k3
  rw [k5, k3.symm, k4]
  have k6 : (0 : Int) ≤ (Lib.bitLen x.toNat : Int) := by omega
  generalize (Lib.bitLen x.toNat : Int) = L at *
  clear k5 k4 k2 k1
  generalize IntKind.i64.wrap (arith .rem .u32 a b) = vr at *
  generalize IntKind.u32.wrap (arith .rem .i64 (IntKind.i64.wrap (IntKind.i64.wrap (arith .rem .i64 (IntKind.i64.wrap (a / 65536 * b)) 4294967296 * 65536) + a % 65536 * b)) 4294967296) = M at *
  generalize IntKind.u32.wrap (dl * sl) = P at *
  generalize IntKind.u32.wrap (dg * sg) = Q at *
  generalize dg * sg = dgsg at *
  generalize IntKind.u32.wrap (dl + sl) = A1 at *
  generalize IntKind.u32.wrap (dg + sg) = A2 at *
  generalize (a + b) % 4294967296 = A at *
  generalize IntKind.u32.wrap (IntKind.u64.wrap (dl - sg)) = S1 at *
  generalize IntKind.u32.wrap (IntKind.u64.wrap (dg - sl)) = S2 at *
  generalize (a + 4294967296 - b) % 4294967296 = S at *
  generalize IntKind.u32.wrap (cif (IntKind.u64.wrap (sg - 1) < dg) (IntKind.u64.wrap (sg - 1)) dg) = C1 at *
  have f2 := cif_or (sg < dg) sg dg
  have f3 := cif_or (dl < sl) sl dl
  generalize cif (sg < dg) sg dg = C2 at *
  generalize cif (dl < sl) sl dl = C3 at *
  generalize arith .or .u32 a b = vo at *
  generalize arith .xor .u32 a b = vx at *
  generalize arith .and .u32 a b = va at *
  generalize arith .quo .u32 a b = vq at *
  generalize IntKind.u32.wrap (arith .quo .u64 dl sg) = q1 at *
  generalize IntKind.u32.wrap (arith .quo .u64 dg sl) = q2 at *
  generalize (2 : Int) ^ k = pk at *
  simp only [ne_eq, Int.one_ne_zero, not_false_eq_true, implies_true, true_and, and_true, imp_false]
  have b0 : ¬sl = 0 → ¬b = 0 := by omega
  have e1 : ¬(¬vo < C3 → pk - 1 < vo) := by clear f2 o5 o6 o7 o8 o9; omega
  have e2 : ¬C2 < va := by clear f3 o5 o6 o7 o8 o9; omega
  have e3 : ¬pk - 1 < vx := by clear f2 f3 o5 o6 o7 o8 o9; omega
  have e4 : ¬(¬b < sl → sg < b) := by clear f2 f3 o5 o6 o7 o8 o9; omega
  clear f2 f3 o1 o2 o3 o4 x1 x2 x3 k3
  refine ⟨by clear o5 o6 o7 o8 o9; omega, by clear o5 o6 o7 o8 o9; omega, e4, fun _ => ⟨?_, ?_, ?_, e2, fun _ => ⟨k6, e1, fun _ => ⟨k6, e3, fun _ => ⟨⟨?_, fun h => ⟨by clear o5 o6 o7 o8 o9; omega, by clear o5 o6 o7 o8 o9; omega, by clear o5 o6 o7 o8 o9; omega, fun h => ⟨b0 h, ?_⟩⟩⟩, ?_, fun h => ⟨by clear o5 o6 o7 o8 o9; omega, fun h => ⟨b0 h, ?_⟩⟩⟩⟩⟩⟩⟩
  · intro h
    have := o8 (by clear o5 o6 o7 o8 o9; omega)
    clear o5 o6 o7 o8 o9; omega
  · intro h
    have := o9 (by clear o5 o6 o7 o8 o9; omega)
    clear o5 o6 o7 o8 o9; omega
  · intro h
    have := o5 (by clear o5 o6 o7 o8 o9; omega)
    clear o5 o6 o7 o8 o9; omega
  · clear o5 o6 o7 o8 o9; omega
  · have := o6 (by clear o5 o6 o7 o8 o9; omega)
    clear o5 o6 o7 o8 o9; omega
  · clear o5 o6 o7 o8 o9; omega
  · have := o7 (by clear o5 o6 o7 o8 o9; omega)
    clear o5 o6 o7 o8 o9; omega

theorem run {vals : Array Value} {all : List Value} (hv : OkAs shs vals.toList all) (W : World) : Calls Try.prog 3 vals W fun e W' => e = .returned (.bool true) ∧ Below W.heap.size W W' :=
  law_true (l := shs) (C := C1) (I := lenI) C1_ok ev holds hv W
set_option maxHeartbeats 1000000 in
theorem lifted (os : Os) (started : os.Started) (H : Type) (enc : TypeId × Value → H) :
    ReturnsInHanded {} Try.checked os 3 .any (Rows.checkSumsSpec.pre6 enc Try.prog Try.f3 Rows.checkSumsRow.domain false) (Rows.checkSumsSpec.post enc Try.prog Try.f3 false true false false) := by
  refine returnsInHanded_of_change (C := Try.checked) own started (by kernel_rfl) Try.func3
    (ChangeSpec.witness6 (enc := enc) (C := Try.checked) false ⟨#[], #[.agg #[.bool false, .int .u32 0, .int .u32 0], .agg #[.bool false, .int .u32 0, .int .u32 0], .agg #[.int .u32 0, .int .u32 0]], []⟩ 8 (by kernel_rfl) (by kernel_rfl) (by kernel_rfl) (by kernel_rfl)) ?_
  intro W base args ds gs before hval0 hW hcnd _
  have hval : ∀ (j : Nat) t v, Try.f3.params[j]? = some t → args[j]? = some v → Value.okWide Try.prog W .any base t v := hval0
  have hW' := hW
  obtain ⟨p, q, hA0, hV, rfl, hfz, hnd⟩ := hW
  have hA : DataW.TrodAll enc Try.prog W 0 (fun _ => true) true Try.f3.params.toList args.toList ds p := hA0
  rw [Try.params3] at hA hval
  obtain ⟨v0, vs0, d0, ds0, p0, q0, hargs, rfl, rfl, h0, r0⟩ := trodAll_cons hA
  obtain ⟨v1, vs1, d1, ds1, p1, q1, rfl, rfl, rfl, h1, r1⟩ := trodAll_cons r0
  obtain ⟨v2, vs2, d2, ds2, p2, q2, rfl, rfl, rfl, h2, r2⟩ := trodAll_cons r1
  obtain ⟨rfl, rfl, rfl⟩ := trodAll_nil r2
  obtain rfl : args = #[v0, v1, v2] := by cases args; simp_all
  obtain ⟨rfl, rfl⟩ := trodVars_none hV
  have lt0 : ∀ x ∈ p0, x.block < W.heap.size := by obtain ⟨m, hm⟩ := h0; exact DataW.trod_lt m _ _ _ hm
  obtain ⟨c0, o0⟩ := shT_okA (s := .row [none, some .u32, some .u32]) (by kernel_rfl) (hval 0 24 v0 rfl rfl)
  have lt1 : ∀ x ∈ p1, x.block < W.heap.size := by obtain ⟨m, hm⟩ := h1; exact DataW.trod_lt m _ _ _ hm
  obtain ⟨c1, o1⟩ := shT_okA (s := .row [none, some .u32, some .u32]) (by kernel_rfl) (hval 1 24 v1 rfl rfl)
  have lt2 : ∀ x ∈ p2, x.block < W.heap.size := by obtain ⟨m, hm⟩ := h2; exact DataW.trod_lt m _ _ _ hm
  obtain ⟨c2, o2⟩ := shT_okA (s := .row [some .u32, some .u32]) (by kernel_rfl) (hval 2 25 v2 rfl rfl)
  refine (run (vals := #[v0, v1, v2]) (all := (c0 ++ (c1 ++ (c2 ++ [])))) ⟨v0, _, c0, _, rfl, rfl, o0, v1, _, c1, _, rfl, rfl, o1, v2, _, c2, _, rfl, rfl, o2, rfl, rfl⟩ W).mono fun e W' ⟨he, bel⟩ => ?_
  subst he
  exact ⟨_, rfl, _, _, _, [], _, [], hW', trodAll_mk1 (shut_bool Try.underlying4 _), (trodAll_cons_mk (Below.trod laidOut (by kernel_rfl) (of_decide_eq_true (by kernel_rfl)) h0 bel lt0) (trodAll_cons_mk (Below.trod laidOut (by kernel_rfl) (of_decide_eq_true (by kernel_rfl)) h1 bel lt1) (trodAll_cons_mk (Below.trod laidOut (by kernel_rfl) (of_decide_eq_true (by kernel_rfl)) h2 bel lt2) trodAll_mk0))), rfl, bel.frame _, fun h => by cases h⟩

theorem over : Rows.checkSumsRow.holds Try.pinned (OpenSpec.ofChange Rows.checkSumsSpec) :=
  OpenClaim.holds_of_wide 3 Try.f3 rfl rfl rfl rfl rfl rfl rfl ⟨rfl, rfl, rfl, rfl, rfl⟩ rfl rfl rfl rfl rfl (by kernel_rfl) Try.func3 (by kernel_rfl)
    (of_decide_eq_true (by kernel_rfl)) (by unfold Func.isWrapper; first | (rw [if_pos (by decide +kernel)]; kernel_rfl) | (rw [if_neg (by decide +kernel)]; exact ⟨rfl, rfl⟩))
    (fun os started H enc _ => lifted os started H enc)
end Go.Proofs.Ytpamdmikdnoplaa.CheckSums
namespace Go.Proofs.Ytpamdmikdnoplaa
theorem CheckSumsProved : Rows.CheckSumsSaid := CheckSums.over
#print axioms CheckSumsProved
end Go.Proofs.Ytpamdmikdnoplaa
