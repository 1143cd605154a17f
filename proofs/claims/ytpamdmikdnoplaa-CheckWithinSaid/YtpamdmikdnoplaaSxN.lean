/- What a tree asks, put plainly: whole numbers without wraps where they fit. -/
import Derived.Test.YtpamdmikdnoplaaSxK
namespace Go.Sx
set_option linter.unusedVariables false

inductive N
  | lit (n : Int) | var (i : Nat) | bvar (i : Nat)
  | add (a b : N) | sub (a b : N) | mul (a b : N) | div (a b : N) | mod (a b : N)
  | wrap (k : IntKind) (a : N) | bin (op : BinOp) (k : IntKind) (a b : N)
  | lt (a b : N) | le (a b : N) | eq (a b : N) | iff (a b : N) | not (a : N) | ite (c a b : N)
  | app (e : E)
  deriving DecidableEq, Repr, Inhabited
/-- One of two numbers. -/
noncomputable def cif (p : Prop) (a b : Int) : Int := @_root_.ite _ p (Classical.propDecidable p) a b
theorem cif_pos {p : Prop} (h : p) (a b : Int) : cif p a b = a := by unfold cif; rw [if_pos h]
theorem cif_neg {p : Prop} (h : ¬ p) (a b : Int) : cif p a b = b := by unfold cif; rw [if_neg h]
theorem cif_or (p : Prop) (a b : Int) : (p ∧ cif p a b = a) ∨ (¬ p ∧ cif p a b = b) := by
  rcases Classical.em p with h | h
  · exact .inl ⟨h, cif_pos h a b⟩
  · exact .inr ⟨h, cif_neg h a b⟩
mutual
noncomputable def N.den (ρ : Env) : N → Int
  | .lit n => n
  | .var i => ρ.i i
  | .add a b => a.den ρ + b.den ρ
  | .sub a b => a.den ρ - b.den ρ
  | .mul a b => a.den ρ * b.den ρ
  | .div a b => a.den ρ / b.den ρ
  | .mod a b => a.den ρ % b.den ρ
  | .wrap k a => k.wrap (a.den ρ)
  | .bin op k a b => arith op k (a.den ρ) (b.den ρ)
  | .ite c a b => cif (c.denP ρ) (a.den ρ) (b.den ρ)
  | .app e => e.den ρ
  | .bvar i => if ρ.b i then 1 else 0
  | .lt .. => 0 | .le .. => 0 | .eq .. => 0 | .iff .. => 0 | .not .. => 0
noncomputable def N.denP (ρ : Env) : N → Prop
  | .lit n => n ≠ 0
  | .bvar i => ρ.b i = true
  | .lt a b => a.den ρ < b.den ρ
  | .le a b => a.den ρ ≤ b.den ρ
  | .eq a b => a.den ρ = b.den ρ
  | .iff a b => (a.denP ρ ↔ b.denP ρ)
  | .not a => ¬ a.denP ρ
  | .ite c a b => (c.denP ρ → a.denP ρ) ∧ (¬ c.denP ρ → b.denP ρ)
  | .app e => e.denB ρ = true
  | .var .. => False | .add .. => False | .sub .. => False | .mul .. => False | .div .. => False | .mod .. => False | .wrap .. => False | .bin .. => False
end

abbrev Rg := Option (Int × Int)
def wrapN (k : IntKind) (n : N) (r : Rg) : N × Rg :=
  match r with
  | some (lo, hi) => if k.min ≤ lo ∧ hi ≤ k.max then (n, some (lo, hi)) else (.wrap k n, some (k.min, k.max))
  | none => (.wrap k n, some (k.min, k.max))
def addR : Rg → Rg → Rg
  | some (a, b), some (c, d) => some (a + c, b + d)
  | _, _ => none
def subR : Rg → Rg → Rg
  | some (a, b), some (c, d) => some (a - d, b - c)
  | _, _ => none
def mulR : Rg → Rg → Rg
  | some (a, b), some (c, d) => if 0 ≤ a ∧ 0 ≤ c then some (a * c, b * d) else none
  | _, _ => none
def orR : Rg → Rg → Rg
  | some (a, b), some (c, d) => some (min a c, max b d)
  | _, _ => none
def posR : Rg → Rg → Bool
  | some (a, _), some (c, _) => decide (0 ≤ a ∧ 1 ≤ c)
  | _, _ => false
def divR : Rg → Rg
  | some (_, b) => some (0, b)
  | none => none
def modR : Rg → Rg
  | some (_, d) => some (0, d - 1)
  | none => none
def ltN (a b : N) : Rg → Rg → N
  | some (la, ha), some (lb, hb) => if ha < lb then .lit 1 else if hb ≤ la then .lit 0 else .lt a b
  | _, _ => .lt a b
def leN (a b : N) : Rg → Rg → N
  | some (la, ha), some (lb, hb) => if ha ≤ lb then .lit 1 else if hb < la then .lit 0 else .le a b
  | _, _ => .le a b
def eqN (a b : N) : Rg → Rg → N
  | some (la, ha), some (lb, hb) => if ha < lb ∨ hb < la then .lit 0 else .eq a b
  | _, _ => .eq a b
def notN : N → N
  | .lit n => if n = 0 then .lit 1 else .lit 0
  | .not a => a
  | a => .not a
def iteN (c a b : N) : N :=
  match c with
  | .lit n => if n = 0 then b else a
  | c => .ite c a b
def shift (k : IntKind) : N → Option Int
  | .lit n => some (2 ^ (min n.toNat k.bits))
  | _ => none
def binN (op : BinOp) (k : IntKind) (a b : N × Rg) : N × Rg :=
  match op with
  | .add => wrapN k (.add a.1 b.1) (addR a.2 b.2)
  | .sub => wrapN k (.sub a.1 b.1) (subR a.2 b.2)
  | .mul => wrapN k (.mul a.1 b.1) (mulR a.2 b.2)
  | .quo => if posR a.2 b.2 then wrapN k (.div a.1 b.1) (divR a.2) else (.bin .quo k a.1 b.1, some (k.min, k.max))
  | .rem => if posR a.2 b.2 then (.mod a.1 b.1, modR b.2) else (.bin .rem k a.1 b.1, none)
  | .shl => match shift k b.1 with
    | some m => wrapN k (.mul a.1 (.lit m)) (mulR a.2 (some (m, m)))
    | none => (.bin .shl k a.1 b.1, some (k.min, k.max))
  | .shr => match shift k b.1 with
    | some m => (.div a.1 (.lit m), if posR a.2 (some (m, m)) then divR a.2 else none)
    | none => (.bin .shr k a.1 b.1, none)
  | .and => (.bin .and k a.1 b.1, some (k.min, k.max))
  | .or => (.bin .or k a.1 b.1, some (k.min, k.max))
  | .xor => (.bin .xor k a.1 b.1, some (k.min, k.max))
  | .andNot => (.bin .andNot k a.1 b.1, some (k.min, k.max))
  | op => (.bin op k a.1 b.1, none)
def appRg (f : Nat) (hull : Rg) : Rg := if f = 70 then hull else if f < 200 then none else if f < 300 then some (0, 4294967295) else if f < 400 then some (0, 1) else some (-9223372036854775808, 9223372036854775807)
mutual
/-- As a number, as a condition. -/
def E.norm (Γ : List (Int × Int)) : E → (N × Rg) × N
  | .lit n => ((.lit n, some (n, n)), .lit n)
  | .var i => ((.var i, Γ[i]?), .lit 0)
  | .bvar i => ((.bvar i, some (0, 1)), .bvar i)
  | .bin op k a b => (binN op k (a.norm Γ).1 (b.norm Γ).1, .lit 0)
  | .wrap k a => (wrapN k (a.norm Γ).1.1 (a.norm Γ).1.2, .lit 0)
  | .lt a b => ((.lit 0, none), ltN (a.norm Γ).1.1 (b.norm Γ).1.1 (a.norm Γ).1.2 (b.norm Γ).1.2)
  | .le a b => ((.lit 0, none), leN (a.norm Γ).1.1 (b.norm Γ).1.1 (a.norm Γ).1.2 (b.norm Γ).1.2)
  | .eq a b => ((.lit 0, none), eqN (a.norm Γ).1.1 (b.norm Γ).1.1 (a.norm Γ).1.2 (b.norm Γ).1.2)
  | .beq a b => ((.lit 0, none), .iff (a.norm Γ).2 (b.norm Γ).2)
  | .not a => ((.lit 0, none), notN (a.norm Γ).2)
  | .ite c a b => ((.ite (c.norm Γ).2 (a.norm Γ).1.1 (b.norm Γ).1.1, orR (a.norm Γ).1.2 (b.norm Γ).1.2), iteN (c.norm Γ).2 (a.norm Γ).2 (b.norm Γ).2)
  | .app f args => ((.app (.app f args), appRg f (args.thull Γ)), .app (.app f args))
  | .nil => ((.lit 0, none), .lit 0)
  | .cons a b => ((.lit 0, none), .lit 0)
/-- Of a list: where all lie, and 0. -/
def E.hull (Γ : List (Int × Int)) : E → Rg
  | .cons a b => orR (a.norm Γ).1.2 (b.hull Γ)
  | .nil => some (0, 0)
  | .lit _ => none | .var _ => none | .bvar _ => none | .bin .. => none | .wrap .. => none | .lt .. => none | .le .. => none | .eq .. => none | .beq .. => none | .not _ => none | .ite .. => none | .app .. => none
def E.thull (Γ : List (Int × Int)) : E → Rg
  | .cons _ b => b.hull Γ
  | .nil => none
  | .lit _ => none | .var _ => none | .bvar _ => none | .bin .. => none | .wrap .. => none | .lt .. => none | .le .. => none | .eq .. => none | .beq .. => none | .not _ => none | .ite .. => none | .app .. => none
end

def InR (r : Rg) (x : Int) : Prop := ∀ lo hi, r = some (lo, hi) → lo ≤ x ∧ x ≤ hi
def Env.Fits (ρ : Env) (Γ : List (Int × Int)) : Prop := ∀ i lo hi, Γ[i]? = some (lo, hi) → lo ≤ ρ.i i ∧ ρ.i i ≤ hi
theorem wrap_fits {k : IntKind} {x : Int} (h1 : k.min ≤ x) (h2 : x ≤ k.max) : k.wrap x = x := by
  cases k <;> simp [IntKind.wrap, IntKind.min, IntKind.max, IntKind.signed, IntKind.bits] at * <;> (try split) <;> omega
theorem wrap_in (k : IntKind) (x : Int) : k.min ≤ k.wrap x ∧ k.wrap x ≤ k.max := by
  cases k <;> simp [IntKind.wrap, IntKind.min, IntKind.max, IntKind.signed, IntKind.bits] <;> (try split) <;> omega
theorem inR_wrap (k : IntKind) (x : Int) : InR (some (k.min, k.max)) (k.wrap x) := by
  intro lo hi h
  simp only [Option.some.injEq, Prod.mk.injEq] at h
  obtain ⟨rfl, rfl⟩ := h
  exact wrap_in k x
theorem wrapN_sound {ρ : Env} {k : IntKind} {n : N} {r : Rg} (h : InR r (n.den ρ)) : (wrapN k n r).1.den ρ = k.wrap (n.den ρ) ∧ InR (wrapN k n r).2 (k.wrap (n.den ρ)) := by
  unfold wrapN
  split
  · rename_i lo hi
    split
    · rename_i hc
      have := h lo hi rfl
      have e : k.wrap (n.den ρ) = n.den ρ := wrap_fits (Int.le_trans hc.1 this.1) (Int.le_trans this.2 hc.2)
      rw [e]
      exact ⟨rfl, h⟩
    · exact ⟨by simp only [N.den], inR_wrap k _⟩
  · exact ⟨by simp only [N.den], inR_wrap k _⟩
theorem addR_sound {r s : Rg} {x y : Int} (h1 : InR r x) (h2 : InR s y) : InR (addR r s) (x + y) := by
  intro lo hi h
  unfold addR at h
  split at h
  · simp only [Option.some.injEq, Prod.mk.injEq] at h
    obtain ⟨rfl, rfl⟩ := h
    have := h1 _ _ rfl; have := h2 _ _ rfl; omega
  · simp at h
theorem subR_sound {r s : Rg} {x y : Int} (h1 : InR r x) (h2 : InR s y) : InR (subR r s) (x - y) := by
  intro lo hi h
  unfold subR at h
  split at h
  · simp only [Option.some.injEq, Prod.mk.injEq] at h
    obtain ⟨rfl, rfl⟩ := h
    have := h1 _ _ rfl; have := h2 _ _ rfl; omega
  · simp at h
theorem mulR_sound {r s : Rg} {x y : Int} (h1 : InR r x) (h2 : InR s y) : InR (mulR r s) (x * y) := by
  intro lo hi h
  unfold mulR at h
  split at h
  · split at h
    · rename_i hc
      simp only [Option.some.injEq, Prod.mk.injEq] at h
      obtain ⟨rfl, rfl⟩ := h
      have a1 := h1 _ _ rfl; have a2 := h2 _ _ rfl
      exact ⟨Int.mul_le_mul a1.1 a2.1 hc.2 (by omega), Int.mul_le_mul a1.2 a2.2 (by omega) (by omega)⟩
    · simp at h
  · simp at h
theorem orR_sound {r s : Rg} {x : Int} (h : InR r x ∨ InR s x) : InR (orR r s) x := by
  intro lo hi h'
  unfold orR at h'
  split at h'
  · simp only [Option.some.injEq, Prod.mk.injEq] at h'
    obtain ⟨rfl, rfl⟩ := h'
    rcases h with h | h
    · have := h _ _ rfl; omega
    · have := h _ _ rfl; omega
  · simp at h'
theorem posR_sound {r s : Rg} {x y : Int} (h1 : InR r x) (h2 : InR s y) (h : posR r s = true) : 0 ≤ x ∧ 1 ≤ y := by
  unfold posR at h
  split at h
  · simp only [decide_eq_true_eq] at h
    have := h1 _ _ rfl; have := h2 _ _ rfl; omega
  · simp at h
theorem inR_none (x : Int) : InR none x := by intro _ _ h; simp at h
theorem shift_sound {ρ : Env} {k : IntKind} {n : N} {m : Int} (h : shift k n = some m) : 2 ^ (min (n.den ρ).toNat k.bits) = m := by
  unfold shift at h
  split at h
  · simp only [Option.some.injEq] at h; simp only [N.den]; exact h
  · simp at h
theorem pow_pos' (j : Nat) : (1 : Int) ≤ 2 ^ j := by
  have : (0 : Int) < 2 ^ j := Int.pow_pos (by omega)
  omega
theorem binN_sound {ρ : Env} {op : BinOp} {k : IntKind} {a b : N × Rg} (ha : InR a.2 (a.1.den ρ)) (hb : InR b.2 (b.1.den ρ)) :
    (binN op k a b).1.den ρ = arith op k (a.1.den ρ) (b.1.den ρ) ∧ InR (binN op k a b).2 (arith op k (a.1.den ρ) (b.1.den ρ)) := by
  cases op with
  | add => have := wrapN_sound (ρ := ρ) (k := k) (n := .add a.1 b.1) (r := addR a.2 b.2) (by simpa only [N.den] using addR_sound ha hb); simpa only [binN, arith, N.den] using this
  | sub => have := wrapN_sound (ρ := ρ) (k := k) (n := .sub a.1 b.1) (r := subR a.2 b.2) (by simpa only [N.den] using subR_sound ha hb); simpa only [binN, arith, N.den] using this
  | mul => have := wrapN_sound (ρ := ρ) (k := k) (n := .mul a.1 b.1) (r := mulR a.2 b.2) (by simpa only [N.den] using mulR_sound ha hb); simpa only [binN, arith, N.den] using this
  | quo =>
    simp only [binN]
    split
    · rename_i hp
      obtain ⟨h1, h2⟩ := posR_sound ha hb hp
      have e : (a.1.den ρ).tdiv (b.1.den ρ) = a.1.den ρ / b.1.den ρ := Int.tdiv_eq_ediv_of_nonneg h1
      have := wrapN_sound (ρ := ρ) (k := k) (n := .div a.1 b.1) (r := divR a.2) (by
        simp only [N.den]
        intro lo hi h
        cases hr : a.2 with
        | none => rw [hr] at h; simp [divR] at h
        | some r =>
          rw [hr] at h
          simp only [divR, Option.some.injEq, Prod.mk.injEq] at h
          obtain ⟨rfl, rfl⟩ := h
          have := ha r.1 r.2 hr
          exact ⟨Int.ediv_nonneg h1 (by omega), Int.le_trans (Int.ediv_le_self _ h1) this.2⟩)
      simpa only [arith, N.den, e] using this
    · exact ⟨by simp only [N.den], inR_wrap k _⟩
  | rem =>
    simp only [binN]
    split
    · rename_i hp
      obtain ⟨h1, h2⟩ := posR_sound ha hb hp
      have e : (a.1.den ρ).tmod (b.1.den ρ) = a.1.den ρ % b.1.den ρ := Int.tmod_eq_emod_of_nonneg h1
      simp only [arith, N.den, e, true_and]
      intro lo hi h
      cases hr : b.2 with
      | none => rw [hr] at h; simp [modR] at h
      | some r =>
        rw [hr] at h
        simp only [modR, Option.some.injEq, Prod.mk.injEq] at h
        obtain ⟨rfl, rfl⟩ := h
        have := hb r.1 r.2 hr
        have := Int.emod_nonneg (a.1.den ρ) (b := b.1.den ρ) (by omega)
        have := Int.emod_lt_of_pos (a.1.den ρ) (b := b.1.den ρ) (by omega)
        omega
    · exact ⟨by simp only [N.den], inR_none _⟩
  | shl =>
    simp only [binN]
    split
    · rename_i m hm
      have e := shift_sound (ρ := ρ) hm
      have := wrapN_sound (ρ := ρ) (k := k) (n := .mul a.1 (.lit m)) (r := mulR a.2 (some (m, m))) (by
        simp only [N.den]
        exact mulR_sound ha (by intro lo hi h; simp only [Option.some.injEq, Prod.mk.injEq] at h; omega))
      simpa only [arith, N.den, e] using this
    · exact ⟨by simp only [N.den], inR_wrap k _⟩
  | shr =>
    simp only [binN]
    split
    · rename_i m hm
      have e := shift_sound (ρ := ρ) hm
      have hm1 : 1 ≤ m := by rw [← e]; exact pow_pos' _
      have e2 : (a.1.den ρ).fdiv m = a.1.den ρ / m := Int.fdiv_eq_ediv_of_nonneg _ (by omega)
      simp only [arith, N.den, e, e2, true_and]
      split
      · rename_i hp
        obtain ⟨h1, _⟩ := posR_sound ha (s := some (m, m)) (y := m) (by intro lo hi h; simp only [Option.some.injEq, Prod.mk.injEq] at h; omega) hp
        intro lo hi h
        cases hr : a.2 with
        | none => rw [hr] at h; simp [divR] at h
        | some r =>
          rw [hr] at h
          simp only [divR, Option.some.injEq, Prod.mk.injEq] at h
          obtain ⟨rfl, rfl⟩ := h
          have := ha r.1 r.2 hr
          exact ⟨Int.ediv_nonneg h1 (by omega), Int.le_trans (Int.ediv_le_self _ h1) this.2⟩
      · exact inR_none _
    · exact ⟨by simp only [N.den], inR_none _⟩
  | and => exact ⟨by simp only [binN, N.den], inR_wrap k _⟩
  | or => exact ⟨by simp only [binN, N.den], inR_wrap k _⟩
  | xor => exact ⟨by simp only [binN, N.den], inR_wrap k _⟩
  | andNot => exact ⟨by simp only [binN, N.den], inR_wrap k _⟩
  | _ => exact ⟨by simp only [binN, N.den], inR_none _⟩
theorem ltN_sound {ρ : Env} {a b : N} {r s : Rg} (h1 : InR r (a.den ρ)) (h2 : InR s (b.den ρ)) : (ltN a b r s).denP ρ ↔ a.den ρ < b.den ρ := by
  unfold ltN
  split
  · have := h1 _ _ rfl; have := h2 _ _ rfl
    split
    · simp only [N.denP]; omega
    · split
      · simp only [N.denP]; omega
      · simp only [N.denP]
  · simp only [N.denP]
theorem leN_sound {ρ : Env} {a b : N} {r s : Rg} (h1 : InR r (a.den ρ)) (h2 : InR s (b.den ρ)) : (leN a b r s).denP ρ ↔ a.den ρ ≤ b.den ρ := by
  unfold leN
  split
  · have := h1 _ _ rfl; have := h2 _ _ rfl
    split
    · simp only [N.denP]; omega
    · split
      · simp only [N.denP]; omega
      · simp only [N.denP]
  · simp only [N.denP]
theorem eqN_sound {ρ : Env} {a b : N} {r s : Rg} (h1 : InR r (a.den ρ)) (h2 : InR s (b.den ρ)) : (eqN a b r s).denP ρ ↔ a.den ρ = b.den ρ := by
  unfold eqN
  split
  · have := h1 _ _ rfl; have := h2 _ _ rfl
    split
    · simp only [N.denP]; omega
    · simp only [N.denP]
  · simp only [N.denP]
theorem notN_sound {ρ : Env} {a : N} : (notN a).denP ρ ↔ ¬ a.denP ρ := by
  unfold notN
  split
  · rename_i n
    by_cases h : n = 0 <;> simp [h, N.denP]
  · simp [N.denP]
  · simp only [N.denP]
theorem iteN_sound {ρ : Env} {c a b : N} : (iteN c a b).denP ρ ↔ (c.denP ρ → a.denP ρ) ∧ (¬ c.denP ρ → b.denP ρ) := by
  unfold iteN
  split
  · rename_i n
    by_cases h : n = 0 <;> simp [h, N.denP]
  · simp only [N.denP]
def Hull (ρ : Env) (Γ : List (Int × Int)) (e : E) : Prop := ∀ x, x = 0 ∨ x ∈ e.denL ρ → InR (e.hull Γ) x
theorem appRg_sound {ρ : Env} {f : Nat} {l : List Int} {r : Rg} (h : f = 70 → InR r (selI l)) : InR (appRg f r) (appI ρ f l) := by
  unfold appRg
  by_cases h70 : f = 70
  · subst h70; exact h rfl
  · rw [if_neg h70]
    have e : appI ρ f l = clampF f (ρ.I f l) := by
      unfold appI; split
      · exact absurd rfl h70
      · rfl
    rw [e]
    unfold clampF
    split
    · exact inR_none _
    · split
      · intro lo hi hh; simp only [Option.some.injEq, Prod.mk.injEq] at hh; have := wrap_in .u32 (ρ.I f l); simp [IntKind.min, IntKind.max, IntKind.signed, IntKind.bits] at this; omega
      · split
        · intro lo hi hh; simp only [Option.some.injEq, Prod.mk.injEq] at hh; split <;> omega
        · intro lo hi hh; simp only [Option.some.injEq, Prod.mk.injEq] at hh; have := wrap_in .i64 (ρ.I f l); simp [IntKind.min, IntKind.max, IntKind.signed, IntKind.bits] at this; omega
theorem norm_sound' {ρ : Env} {Γ : List (Int × Int)} (hΓ : ρ.Fits Γ) (e : E) : ((e.norm Γ).1.1.den ρ = e.den ρ ∧ ((e.norm Γ).2.denP ρ ↔ e.denB ρ = true) ∧ InR (e.norm Γ).1.2 (e.den ρ)) ∧ Hull ρ Γ e ∧ InR (e.thull Γ) (selI (e.denL ρ)) := by
  induction e with
  | lit n =>
    refine ⟨?_, fun x _ => inR_none x, inR_none _⟩
    exact ⟨by simp only [E.norm, N.den, E.den], by simp [E.norm, N.denP, E.denB], by intro lo hi h; simp only [E.norm, Option.some.injEq, Prod.mk.injEq] at h; simp only [E.den]; omega⟩
  | var i =>
    refine ⟨?_, fun x _ => inR_none x, inR_none _⟩
    exact ⟨by simp only [E.norm, N.den, E.den], by simp [E.norm, N.denP, E.denB], by intro lo hi h; simp only [E.norm] at h; simp only [E.den]; exact hΓ i lo hi h⟩
  | bvar i =>
    refine ⟨?_, fun x _ => inR_none x, inR_none _⟩
    exact ⟨by simp only [E.norm, N.den, E.den], by simp [E.norm, N.denP, E.denB], by intro lo hi h; simp only [E.norm, Option.some.injEq, Prod.mk.injEq] at h; simp only [E.den]; split <;> omega⟩
  | bin op k a b iha ihb =>
    replace iha := iha.1
    replace ihb := ihb.1
    refine ⟨?_, fun x _ => inR_none x, inR_none _⟩
    have h := binN_sound (ρ := ρ) (op := op) (k := k) (a := (a.norm Γ).1) (b := (b.norm Γ).1) (by rw [iha.1]; exact iha.2.2) (by rw [ihb.1]; exact ihb.2.2)
    rw [iha.1, ihb.1] at h
    exact ⟨by simp only [E.norm, E.den]; exact h.1, by simp [E.norm, N.denP, E.denB], by simp only [E.norm, E.den]; exact h.2⟩
  | wrap k a ih =>
    replace ih := ih.1
    refine ⟨?_, fun x _ => inR_none x, inR_none _⟩
    have h := wrapN_sound (ρ := ρ) (k := k) (n := (a.norm Γ).1.1) (r := (a.norm Γ).1.2) (by rw [ih.1]; exact ih.2.2)
    rw [ih.1] at h
    exact ⟨by simp only [E.norm, E.den]; exact h.1, by simp [E.norm, N.denP, E.denB], by simp only [E.norm, E.den]; exact h.2⟩
  | lt a b iha ihb =>
    replace iha := iha.1
    replace ihb := ihb.1
    refine ⟨?_, fun x _ => inR_none x, inR_none _⟩
    refine ⟨by simp only [E.norm, N.den, E.den], ?_, inR_none _⟩
    simp only [E.norm, E.denB, decide_eq_true_eq]
    rw [ltN_sound (by rw [iha.1]; exact iha.2.2) (by rw [ihb.1]; exact ihb.2.2), iha.1, ihb.1]
  | le a b iha ihb =>
    replace iha := iha.1
    replace ihb := ihb.1
    refine ⟨?_, fun x _ => inR_none x, inR_none _⟩
    refine ⟨by simp only [E.norm, N.den, E.den], ?_, inR_none _⟩
    simp only [E.norm, E.denB, decide_eq_true_eq]
    rw [leN_sound (by rw [iha.1]; exact iha.2.2) (by rw [ihb.1]; exact ihb.2.2), iha.1, ihb.1]
  | eq a b iha ihb =>
    replace iha := iha.1
    replace ihb := ihb.1
    refine ⟨?_, fun x _ => inR_none x, inR_none _⟩
    refine ⟨by simp only [E.norm, N.den, E.den], ?_, inR_none _⟩
    simp only [E.norm, E.denB, beq_iff_eq]
    rw [eqN_sound (by rw [iha.1]; exact iha.2.2) (by rw [ihb.1]; exact ihb.2.2), iha.1, ihb.1]
  | beq a b iha ihb =>
    replace iha := iha.1
    replace ihb := ihb.1
    refine ⟨?_, fun x _ => inR_none x, inR_none _⟩
    refine ⟨by simp only [E.norm, N.den, E.den], ?_, inR_none _⟩
    simp only [E.norm, N.denP, E.denB, iha.2.1, ihb.2.1]
    cases a.denB ρ <;> cases b.denB ρ <;> simp
  | not a ih =>
    replace ih := ih.1
    refine ⟨?_, fun x _ => inR_none x, inR_none _⟩
    refine ⟨by simp only [E.norm, N.den, E.den], ?_, inR_none _⟩
    simp only [E.norm, E.denB, notN_sound, ih.2.1]
    simp
  | ite c a b ihc iha ihb =>
    replace ihc := ihc.1
    replace iha := iha.1
    replace ihb := ihb.1
    refine ⟨?_, fun x _ => inR_none x, inR_none _⟩
    refine ⟨?_, ?_, ?_⟩
    · simp only [E.norm, N.den, E.den, iha.1, ihb.1]
      by_cases h : c.denB ρ = true
      · rw [cif_pos (ihc.2.1.2 h), if_pos h]
      · rw [cif_neg (fun hc => h (ihc.2.1.1 hc)), if_neg h]
    · simp only [E.norm, E.denB, iteN_sound, ihc.2.1, iha.2.1, ihb.2.1]
      cases c.denB ρ <;> simp
    · simp only [E.norm, E.den]
      split
      · exact orR_sound (.inl iha.2.2)
      · exact orR_sound (.inr ihb.2.2)
  | app f args ih =>
    refine ⟨⟨by simp only [E.norm, N.den], by simp only [E.norm, N.denP], ?_⟩, fun x _ => inR_none x, inR_none _⟩
    simp only [E.norm, E.den]
    exact appRg_sound fun _ => ih.2.2
  | nil => exact ⟨⟨by simp only [E.norm, N.den, E.den], by simp [E.norm, N.denP, E.denB], inR_none _⟩, (fun x hx => by simp only [E.denL, List.not_mem_nil, or_false] at hx; subst hx; intro lo hi h; simp only [E.hull, Option.some.injEq, Prod.mk.injEq] at h; omega), inR_none _⟩
  | cons a b iha ihb =>
    refine ⟨⟨by simp only [E.norm, N.den, E.den], by simp [E.norm, N.denP, E.denB], inR_none _⟩, fun x hx => ?_, ?_⟩
    · simp only [E.hull]
      rcases hx with rfl | hx
      · exact orR_sound (.inr (ihb.2.1 0 (.inl rfl)))
      · simp only [E.denL, List.mem_cons] at hx
        rcases hx with rfl | hx
        · exact orR_sound (.inl iha.1.2.2)
        · exact orR_sound (.inr (ihb.2.1 x (.inr hx)))
    · simp only [E.thull, E.denL, selI, List.getD_eq_getElem?_getD]
      cases hg : (b.denL ρ)[(a.den ρ).toNat]? with
      | none => exact ihb.2.1 _ (.inl rfl)
      | some x => exact ihb.2.1 _ (.inr (List.mem_of_getElem? hg))
theorem norm_sound {ρ : Env} {Γ : List (Int × Int)} (hΓ : ρ.Fits Γ) (e : E) : (e.norm Γ).1.1.den ρ = e.den ρ ∧ ((e.norm Γ).2.denP ρ ↔ e.denB ρ = true) ∧ InR (e.norm Γ).1.2 (e.den ρ) := (norm_sound' hΓ e).1

/-- What is left to be shown. -/
inductive NT
  | ok | bad
  | goal (c : N)
  | ite (c : N) (t f : NT)
  | both (t u : NT)
  deriving DecidableEq, Repr, Inhabited
def NT.Holds (ρ : Env) : NT → Prop
  | .ok => True
  | .bad => False
  | .goal c => c.denP ρ
  | .ite c t f => (c.denP ρ → t.Holds ρ) ∧ (¬ c.denP ρ → f.Holds ρ)
  | .both t u => t.Holds ρ ∧ u.Holds ρ
def goalN : N → NT
  | .lit n => if n = 0 then .bad else .ok
  | c => .goal c
def iteT (c : N) (t f : NT) : NT :=
  match c with
  | .lit n => if n = 0 then f else t
  | c => match t, f with
    | .ok, .ok => .ok
    | t, f => .ite c t f
def bothT : NT → NT → NT
  | .ok, u => u
  | t, .ok => t
  | t, u => .both t u
theorem goalN_sound {ρ : Env} {c : N} (h : (goalN c).Holds ρ) : c.denP ρ := by
  unfold goalN at h
  split at h
  · rename_i n
    split at h
    · exact h.elim
    · rename_i hn; simpa [N.denP] using hn
  · exact h
theorem iteT_sound {ρ : Env} {c : N} {t f : NT} (h : (iteT c t f).Holds ρ) : (c.denP ρ → t.Holds ρ) ∧ (¬ c.denP ρ → f.Holds ρ) := by
  unfold iteT at h
  split at h
  · rename_i n
    split at h
    · rename_i hn; exact ⟨fun hc => absurd hn hc, fun _ => h⟩
    · rename_i hn; exact ⟨fun _ => h, fun hc => absurd hn hc⟩
  · split at h
    · exact ⟨fun _ => trivial, fun _ => trivial⟩
    · exact h
theorem bothT_sound {ρ : Env} {t u : NT} (h : (bothT t u).Holds ρ) : t.Holds ρ ∧ u.Holds ρ := by
  unfold bothT at h
  split at h
  · exact ⟨trivial, h⟩
  · exact ⟨h, trivial⟩
  · exact h
/-- That a call returns true, on every leaf. -/
def finT (Γ : List (Int × Int)) : Tree (Out × List SO × List E) → NT
  | .leaf (.ret (.bool e), _, p) => if decideE p e = some true then .ok else goalN (e.norm Γ).2
  | .leaf _ => .bad
  | .ite e t f => iteT (e.norm Γ).2 (finT Γ t) (finT Γ f)
  | .need e t => bothT (goalN (e.norm Γ).2) (finT Γ t)
  | .also t u => bothT (finT Γ t) (finT Γ u)
  | .ok => .ok
  | .bad _ => .bad
def RetTrue (ρ : Env) (x : Out × List SO × List E) : Prop := ρ.Path x.2.2 → ∃ e, x.1 = .ret (.bool e) ∧ e.denB ρ = true
theorem finT_sound {ρ : Env} {Γ : List (Int × Int)} (hΓ : ρ.Fits Γ) : ∀ {t : Tree (Out × List SO × List E)}, (finT Γ t).Holds ρ → t.Sat ρ (RetTrue ρ)
  | .leaf (o, h, p), ht => by
    intro hp
    cases o with
    | pan s => exact ht.elim
    | ret s =>
      cases s with
      | bool e =>
        refine ⟨e, rfl, ?_⟩
        simp only [finT] at ht
        split at ht
        · rename_i hd; exact decideE_sound hp hd
        · exact (norm_sound hΓ e).2.1.1 (goalN_sound ht)
      | _ => exact ht.elim
  | .ite e t f, ht => by
    have h := iteT_sound ht
    have hn := (norm_sound hΓ e).2.1
    exact ⟨fun he => finT_sound hΓ (h.1 (hn.2 he)), fun he => finT_sound hΓ (h.2 fun hc => by rw [hn.1 hc] at he; cases he)⟩
  | .need e t, ht => by
    have h := bothT_sound ht
    exact ⟨(norm_sound hΓ e).2.1.1 (goalN_sound h.1), finT_sound hΓ h.2⟩
  | .also t u, ht => by
    have h := bothT_sound ht
    exact ⟨finT_sound hΓ h.1, finT_sound hΓ h.2⟩
  | .ok, _ => trivial
  | .bad _, ht => ht.elim
end Go.Sx
