/- Rows of ranges that are put, one behind the other: read off what stands there. -/
import Derived.Test.YtpamdmikdnoplaaSxS
namespace Go.Sx
open Go.RowKit
set_option linter.unusedVariables false

structure PutE where
  d : E
  s : E
  l : E
  g : E
  deriving DecidableEq, Repr, Inhabited
def PutE.row (p : PutE) : List SV := [.bool p.s, .int .u32 p.l, .int .u32 p.g]
def innerS : SV → SV
  | .bool (.ite _ _ o) => .bool o
  | .int k (.ite _ _ o) => .int k o
  | x => x
def guessPut (l : List SV) : Option (PutE × List SV) :=
  match l with
  | .bool (.ite (.eq d (.lit 0)) s _) :: .int .u32 (.ite (.eq d1 (.lit 0)) x _) :: .int .u32 (.ite (.eq d2 (.lit 0)) y _) :: _ => if d = d1 ∧ d = d2 then some (⟨d, s, x, y⟩, l.map innerS) else none
  | _ => none
def litPut (base l : List SV) (j : Nat) : Nat → Option (PutE × List SV)
  | 0 => none
  | n + 1 => if (l.drop (3 * j)).take 3 = (base.drop (3 * j)).take 3 then litPut base l (j + 1) n else match (l.drop (3 * j)).take 3 with
    | [.bool s, .int .u32 x, .int .u32 y] => some (⟨.lit j, s, x, y⟩, splice l (3 * j) ((base.drop (3 * j)).take 3))
    | _ => none
def unput (base : List SV) : Nat → List SV → Option (List PutE)
  | 0, _ => none
  | n + 1, l => if l = base then some [] else match guessPut l with
    | some (p, inner) => if putRow p.d p.row 0 3 10 inner = some l then (unput base n inner).map (· ++ [p]) else none
    | none => match litPut base l 0 10 with
      | some (p, inner) => if putRow p.d p.row 0 3 10 inner = some l then (unput base n inner).map (· ++ [p]) else none
      | none => none
/-- What a row stands for. -/
def PutE.vals (ρ : Env) (p : PutE) : List Value := [.bool (p.s.denB ρ), .int .u32 (p.l.den ρ), .int .u32 (p.g.den ρ)]
def putV (ρ : Env) (vs : List Value) (p : PutE) : List Value := if p.d.den ρ < 10 then splice vs (3 * (p.d.den ρ).toNat) (p.vals ρ) else vs
def putsV (ρ : Env) (vs : List Value) (ps : List PutE) : List Value := ps.foldl (putV ρ) vs
theorem row_rel (ρ : Env) (β : List Nat) (p : PutE) : RelL ρ β p.row (p.vals ρ) := ⟨_, _, rfl, rfl, _, _, rfl, rfl, _, _, rfl, rfl, rfl⟩
theorem putRow_putV {ρ : Env} {β : List Nat} {p : PutE} {inner l : List SV} (h : putRow p.d p.row 0 3 10 inner = some l) (hd : 0 ≤ p.d.den ρ) {vs : List Value} (hv : RelL ρ β inner vs) : RelL ρ β l (putV ρ vs p) := by
  obtain ⟨j, hj⟩ : ∃ j : Nat, p.d.den ρ = j := ⟨(p.d.den ρ).toNat, by omega⟩
  have := (putRow_rel hj (row_rel ρ β p) hv h).1
  unfold putV
  rw [hj]
  by_cases hlt : j < 10
  · rw [if_pos hlt] at this
    rw [if_pos (by omega)]
    simpa using this
  · rw [if_neg hlt] at this
    rw [if_neg (by omega)]
    exact this
theorem unput_rel {ρ : Env} {β : List Nat} {base : List SV} {vs : List Value} (hb : RelL ρ β base vs) : ∀ {n : Nat} {l : List SV} {ps : List PutE}, unput base n l = some ps → (∀ p ∈ ps, 0 ≤ p.d.den ρ) → RelL ρ β l (putsV ρ vs ps)
  | 0, _, _, h, _ => by simp [unput] at h
  | n + 1, l, ps, h, hd => by
    have step : ∀ {p : PutE} {inner : List SV}, (if putRow p.d p.row 0 3 10 inner = some l then (unput base n inner).map (· ++ [p]) else none) = some ps → RelL ρ β l (putsV ρ vs ps) := by
      intro p inner h
      split at h
      · rename_i hp
        simp only [Option.map_eq_some_iff] at h
        obtain ⟨q, h1, rfl⟩ := h
        have ih := unput_rel hb h1 fun x hx => hd x (List.mem_append_left _ hx)
        have := putRow_putV hp (hd p (List.mem_append_right _ (List.mem_singleton_self _))) ih
        simpa [putsV, List.foldl_append] using this
      · cases h
    unfold unput at h
    split at h
    · rename_i hl; subst hl
      simp only [Option.some.injEq] at h; subst h
      exact hb
    · split at h
      · exact step h
      · split at h
        · exact step h
        · cases h
/-- What is equal to what is named: how many are put, and what. -/
def eqPuts (n : Nat) : List PutE → List E
  | [] => []
  | p :: ps => .mkLe (.lit 0) p.d :: .mkEq p.d (.var n) :: .mkEq (b2i p.s) (.var (n + 1)) :: .mkEq p.l (.var (n + 2)) :: .mkEq p.g (.var (n + 3)) :: eqPuts (n + 4) ps
def zeroRow : List SV := [.bool ff, .int .u32 (.lit 0), .int .u32 (.lit 0)]
def zeroRegs : List SV := zeroRow ++ zeroRow ++ zeroRow ++ zeroRow ++ zeroRow ++ zeroRow ++ zeroRow ++ zeroRow ++ zeroRow ++ zeroRow
/-- What is known, against the numbers named from n on: 0, or one more than how many are put. -/
def eqKnown (path : List E) (base : List SV) (n : Nat) : List SV → Option (List E)
  | .bool e :: l => match decideE path e, exactL l with
    | some false, true => if l = zeroRegs then some [.eq (.lit 0) (.var n)] else none
    | some true, true => match unput base 12 l with
      | some ps => if ps.length ≤ 7 then some (.eq (.lit ((ps.length + 1 : Nat) : Int)) (.var n) :: eqPuts (n + 1) ps) else none
      | none => none
    | _, _ => none
  | _ => none
end Go.Sx
namespace Go.Sx
/-- What is returned, held against what is named. -/
def chkL (g : List E → SV → Option (List E)) (t : Tree (Out × List SO × List E)) : Tree (Out × List SO × List E) := t.bind fun (o, _, p) => match o with
  | .ret s => match g p s with
    | some es => .leaf (.ret (.bool (andL es)), [], p)
    | none => .bad "what is returned"
  | .pan _ => .bad "panics"
end Go.Sx
