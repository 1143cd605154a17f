/- Operations that look at no memory: all of them in one. -/
import Derived.Test.YtpamdmikdnoplaaSxC
namespace Go.Sx
set_option linter.unusedVariables false
variable {P : Program} {ρ : Env} {β : List Nat}

def isCst : Operand → Bool
  | .const _ => true
  | _ => false
def guardOk (P : Program) (t : TypeId) (cst : Bool) : SV → SV → Bool
  | .nilif, .nilif => cst
  | .agg _, .agg _ => !P.eqGuardType P.depth t
  | _, _ => true
def binInt (op : BinOp) (k k' : IntKind) (a b : E) : Option (List E × SV) :=
  match op with
  | .shl => some ([.mkLe (.lit 0) b], .int k (.mkBin .shl k a b))
  | .shr => some ([.mkLe (.lit 0) b], .int k (.mkBin .shr k a b))
  | .add => if k = k' then some ([], .int k (.mkBin .add k a b)) else none
  | .sub => if k = k' then some ([], .int k (.mkBin .sub k a b)) else none
  | .mul => if k = k' then some ([], .int k (.mkBin .mul k a b)) else none
  | .and => if k = k' then some ([], .int k (.mkBin .and k a b)) else none
  | .or => if k = k' then some ([], .int k (.mkBin .or k a b)) else none
  | .xor => if k = k' then some ([], .int k (.mkBin .xor k a b)) else none
  | .andNot => if k = k' then some ([], .int k (.mkBin .andNot k a b)) else none
  | .quo => if k = k' then some ([.mkNot (.mkEq b (.lit 0))], .int k (.mkBin .quo k a b)) else none
  | .rem => if k = k' then some ([.mkNot (.mkEq b (.lit 0))], .int k (.mkBin .rem k a b)) else none
  | .eql => if k = k' then some ([], .bool (.mkEq a b)) else none
  | .neq => if k = k' then some ([], .bool (.mkNot (.mkEq a b))) else none
  | .lss => if k = k' then some ([], .bool (.mkLt a b)) else none
  | .leq => if k = k' then some ([], .bool (.mkLe a b)) else none
  | .gtr => if k = k' then some ([], .bool (.mkLt b a)) else none
  | .geq => if k = k' then some ([], .bool (.mkLe b a)) else none
def notInt : SV → Bool
  | .bool .. | .ptr .. | .pnil | .fn .. | .nilfn | .map .. | .mapnil | .slc .. | .snil | .ifc .. | .nilif | .agg .. => true
  | _ => false
def binS (P : Program) (op : BinOp) (t : TypeId) (cst : Bool) (x y : SV) : Option (List E × SV) :=
  match x, y with
  | .int k a, .int k' b => binInt op k k' a b
  | x, y =>
    if notInt x && guardOk P t cst x y then
      match op with
      | .eql => (eqS P 12 t x y).map fun e => ([], .bool e)
      | .neq => (eqS P 12 t x y).map fun e => ([], .bool (.mkNot e))
      | _ => none
    else none

theorem run_binInt {op : BinOp} {k k' : IntKind} {a b : E} {ns : List E} {s : SV} (h : binInt op k k' a b = some (ns, s)) (hn : ∀ n ∈ ns, n.denB ρ = true) (t : TypeId) :
    ∃ v, s.rel ρ β v ∧ ∀ w, (binOp op t (.int k (a.den ρ)) (.int k' (b.den ρ))).run P w = .ok v w := by
  cases op
  case shl =>
    simp only [binInt, Option.some.injEq, Prod.mk.injEq] at h; obtain ⟨rfl, rfl⟩ := h
    have := hn _ (List.mem_singleton_self _)
    rw [E.denB_mkLe] at this
    have this := of_decide_eq_true this
    simp only [E.den] at this
    refine ⟨_, rfl, fun w => ?_⟩
    simp only [binOp, Op.shift]
    rw [if_neg (by omega)]
    simp [E.den_mkBin, arith]
  case shr =>
    simp only [binInt, Option.some.injEq, Prod.mk.injEq] at h; obtain ⟨rfl, rfl⟩ := h
    have := hn _ (List.mem_singleton_self _)
    rw [E.denB_mkLe] at this
    have this := of_decide_eq_true this
    simp only [E.den] at this
    refine ⟨_, rfl, fun w => ?_⟩
    simp only [binOp, Op.shift]
    rw [if_neg (by omega)]
    simp [E.den_mkBin, arith]
  case quo =>
    simp only [binInt] at h
    split at h
    · rename_i hk; subst hk
      simp only [Option.some.injEq, Prod.mk.injEq] at h; obtain ⟨rfl, rfl⟩ := h
      have := hn _ (List.mem_singleton_self _)
      simp only [E.denB_mkNot, E.denB_mkEq, E.den, Bool.not_eq_true', beq_eq_false_iff_ne] at this
      exact ⟨_, rfl, fun w => by simp [binOp, Op.intDiv, arith, this]⟩
    · simp at h
  case rem =>
    simp only [binInt] at h
    split at h
    · rename_i hk; subst hk
      simp only [Option.some.injEq, Prod.mk.injEq] at h; obtain ⟨rfl, rfl⟩ := h
      have := hn _ (List.mem_singleton_self _)
      simp only [E.denB_mkNot, E.denB_mkEq, E.den, Bool.not_eq_true', beq_eq_false_iff_ne] at this
      exact ⟨_, rfl, fun w => by simp [binOp, Op.intDiv, arith, this]⟩
    · simp at h
  all_goals
    simp only [binInt] at h
    split at h
    · rename_i hk; subst hk
      simp only [Option.some.injEq, Prod.mk.injEq] at h; obtain ⟨rfl, rfl⟩ := h
      exact ⟨_, rfl, fun w => by simp [binOp, Op.intArith, Op.intBits, Op.intCmp, arith, bne]⟩
    · simp at h

theorem run_binOp_eql {t : TypeId} {x y : SV} {vx vy : Value} (hx : x.rel ρ β vx) (hy : y.rel ρ β vy) (hni : notInt x = true) (w : World) :
    (binOp .eql t vx vy).run P w = ((Op.equalIn 10000 t vx vy).run P w).andThen fun b w' => .ok (.bool b) w' := by
  have key : (binOp .eql t vx vy) = (do pure (.bool (← Op.equal t vx vy))) := by
    cases x <;> simp [notInt] at hni <;> simp only [SV.rel] at hx <;>
      (first | subst hx | (obtain ⟨_, _, rfl⟩ := hx) | (obtain ⟨_, _, _, _, _, _, rfl⟩ := hx)) <;> rfl
  rw [key]
  simp [Op.equal, Op.maxDepth]
theorem run_binOp_neq {t : TypeId} {x y : SV} {vx vy : Value} (hx : x.rel ρ β vx) (hy : y.rel ρ β vy) (hni : notInt x = true) (w : World) :
    (binOp .neq t vx vy).run P w = ((Op.equalIn 10000 t vx vy).run P w).andThen fun b w' => .ok (.bool (!b)) w' := by
  have key : (binOp .neq t vx vy) = (do pure (.bool (!(← Op.equal t vx vy)))) := by
    cases x <;> simp [notInt] at hni <;> simp only [SV.rel] at hx <;>
      (first | subst hx | (obtain ⟨_, _, rfl⟩ := hx) | (obtain ⟨_, _, _, _, _, _, rfl⟩ := hx)) <;> rfl
  rw [key]
  simp [Op.equal, Op.maxDepth]

theorem run_eqGuard_ok {op : BinOp} (hop : op = .eql ∨ op = .neq) {t : TypeId} {ox oy : Operand} {x y : SV} {vx vy : Value} (hx : x.rel ρ β vx) (hy : y.rel ρ β vy)
    (hni : notInt x = true) (hg : guardOk P t (isCst ox || isCst oy) x y = true) (hu : y ≠ .unk) (hc : ∀ g v, y ≠ .cond g v) (hv : ∀ i, y ≠ .val i) (w : World) :
    (eqGuard op t ox oy vx vy).run P w = .ok () w := by
  rcases hop with rfl | rfl <;> (cases x <;> simp [notInt] at hni <;> simp only [SV.rel] at hx <;>
    (first | subst hx | (obtain ⟨_, _, rfl⟩ := hx) | (obtain ⟨_, _, _, _, _, _, rfl⟩ := hx))) <;>
    (cases y <;> simp only [SV.rel] at hy <;>
      (first | exact hy.elim | (exact absurd rfl hu) | (exact absurd rfl (hc _ _)) | (exact absurd rfl (hv _)) | subst hy | (obtain ⟨_, _, rfl⟩ := hy) | (obtain ⟨_, _, _, _, _, _, rfl⟩ := hy))) <;>
    (first
      | (simp [eqGuard]; done)
      | (simp only [guardOk, Bool.not_eq_true'] at hg; simp [eqGuard, hg]; done)
      | (simp only [guardOk, Bool.or_eq_true] at hg
         rcases hg with hg | hg
         · cases ox <;> simp [isCst] at hg; simp [eqGuard]
         · cases oy <;> simp [isCst] at hg; simp [eqGuard]))
theorem run_eqGuard_other {op : BinOp} (hop : op ≠ .eql ∧ op ≠ .neq) (t : TypeId) (ox oy : Operand) (vx vy : Value) (w : World) : (eqGuard op t ox oy vx vy).run P w = .ok () w := by
  cases op <;> simp_all [eqGuard]
theorem run_eqGuard_int {op : BinOp} (t : TypeId) (ox oy : Operand) (k k' : IntKind) (a b : Int) (w : World) : (eqGuard op t ox oy (.int k a) (.int k' b)).run P w = .ok () w := by
  cases op <;> simp [eqGuard]
end Go.Sx
