/- Operations that look at no memory, on values that are known in part. -/
import Derived.Test.YtpamdmikdnoplaaSxA
import Derived.Laws.StructEq
import Derived.ChangeKeysEq
import Derived.Deep.MidRow
namespace Go.Sx
set_option linter.unusedVariables false

def Env.Path (ρ : Env) (path : List E) : Prop := ∀ e ∈ path, e.denB ρ = true
theorem Env.Path.cons {ρ : Env} {path : List E} (h : ρ.Path path) {e : E} (he : e.denB ρ = true) : ρ.Path (e :: path) := by
  intro x hx; rcases List.mem_cons.1 hx with rfl | hx
  · exact he
  · exact h _ hx

theorem Env.Path.assumeT {ρ : Env} {path : List E} (h : ρ.Path path) {e : E} (he : e.denB ρ = true) : ρ.Path (assumeT e path) := by
  intro x hx; rcases List.mem_append.1 hx with hx | hx
  · exact (E.holds_both ρ e).1 he x hx
  · exact h _ hx
theorem Env.Path.assumeF {ρ : Env} {path : List E} (h : ρ.Path path) {e : E} (he : e.denB ρ = false) : ρ.Path (assumeF e path) := by
  intro x hx; rcases List.mem_append.1 hx with hx | hx
  · exact (E.holds_both ρ e).2 he x hx
  · exact h _ hx

def stripC (path : List E) : SV → SV
  | .cond g v => match decideE path g with
    | some true => v
    | some false => .tup .nil
    | none => .cond g v
  | v => v
theorem stripC_rel {ρ : Env} {β : List Nat} {path : List E} (hp : ρ.Path path) {s : SV} {v : Value} (h : s.rel ρ β v) : (stripC path s).rel ρ β v := by
  unfold stripC; split
  · rename_i g x
    split
    · rename_i hd; have := decideE_sound hp hd; simp only [SV.rel] at h; exact h.1 this
    · rename_i hd; have := decideE_sound hp hd; simp only [SV.rel] at h; rw [h.2 this]; simp [SV.rel, SV.relS, undef]
    · exact h
  · exact h

def pickV (e : E) (a b : SV) : Option SV :=
  match a, b with
  | .bool x, .bool y => some (.bool (.mkIteB e x y))
  | .int k x, .int k' y => if k = k' then some (.int k (.mkIte e x y)) else none
  | a, b => if a = b then some a else none
theorem pickV_rel {ρ : Env} {β : List Nat} {e : E} {a b s : SV} (hs : pickV e a b = some s) {v : Value}
    (h1 : e.denB ρ = true → a.rel ρ β v) (h2 : e.denB ρ = false → b.rel ρ β v) : s.rel ρ β v := by
  unfold pickV at hs
  split at hs
  · simp only [Option.some.injEq] at hs; subst hs
    simp only [SV.rel, E.denB_mkIteB] at *
    cases h : e.denB ρ
    · simpa using h2 h
    · simpa using h1 h
  · split at hs
    · rename_i hk; subst hk; simp only [Option.some.injEq] at hs; subst hs
      simp only [SV.rel, E.den_mkIte] at *
      cases h : e.denB ρ
      · simpa using h2 h
      · simpa using h1 h
    · simp at hs
  · split at hs
    · rename_i hk; subst hk; simp only [Option.some.injEq] at hs; subst hs
      cases h : e.denB ρ
      · exact h2 h
      · exact h1 h
    · simp at hs

/- One of several, by a number that is known in part. -/
def E.ofL : List E → E
  | [] => .nil
  | a :: l => .cons a (E.ofL l)
theorem denL_ofL (ρ : Env) : ∀ l : List E, (E.ofL l).denL ρ = l.map (E.den ρ)
  | [] => rfl
  | a :: l => by simp [E.ofL, E.denL, denL_ofL ρ l]
def b2i : E → E
  | .lit n => .lit (if n = 0 then 0 else 1)
  | .bvar i => .bvar i
  | e => .ite e (.lit 1) (.lit 0)
theorem den_b2i (ρ : Env) (e : E) : (b2i e).den ρ = if e.denB ρ then 1 else 0 := by
  unfold b2i; split
  · rename_i n; by_cases h : n = 0 <;> simp [h, E.den, E.denB]
  · simp only [E.den, E.denB]; rfl
  · simp [E.den]
/-- An expression where a condition holds. -/
def underE (g : E) : E → E
  | .ite c a b => if c = g then a else .ite c a b
  | e => e
theorem underE_den {ρ : Env} {g : E} (h : g.denB ρ = true) (e : E) : (underE g e).den ρ = e.den ρ := by
  unfold underE; split
  · rename_i c a b
    split
    · rename_i hc; subst hc; simp [E.den, h]
    · rfl
  · rfl
theorem underE_denB {ρ : Env} {g : E} (h : g.denB ρ = true) (e : E) : (underE g e).denB ρ = e.denB ρ := by
  unfold underE; split
  · rename_i c a b
    split
    · rename_i hc; subst hc; simp [E.denB, h]
    · rfl
  · rfl
def undersE (e : E) : Nat → List E → List E
  | _, [] => []
  | k, x :: l => underE (.mkEq e (.lit k)) x :: undersE e (k + 1) l
theorem undersE_length (e : E) : ∀ (l : List E) (k : Nat), (undersE e k l).length = l.length
  | [], _ => rfl
  | x :: l, k => by simp [undersE, undersE_length e l (k + 1)]
theorem undersE_get {ρ : Env} {e : E} {n : Nat} (he : e.den ρ = n) : ∀ {l : List E} {k : Nat} {x : E}, k ≤ n → l[n - k]? = some x → ∃ y, (undersE e k l)[n - k]? = some y ∧ y.den ρ = x.den ρ ∧ y.denB ρ = x.denB ρ
  | [], _, _, _, h => by simp at h
  | a :: l, k, x, hk, h => by
    by_cases hn : n = k
    · subst hn
      simp at h; subst h
      have hg : (E.mkEq e (.lit n)).denB ρ = true := by simp [E.den, he]
      exact ⟨_, by simp [undersE], underE_den hg _, underE_denB hg _⟩
    · have e1 : n - k = (n - (k + 1)) + 1 := by omega
      rw [e1] at h ⊢
      simp only [List.getElem?_cons_succ] at h
      obtain ⟨y, h1, h2⟩ := undersE_get he (k := k + 1) (by omega) h
      exact ⟨y, by simpa [undersE] using h1, h2⟩
/-- Are all the same? -/
def allSame : List E → Option E
  | [] => none
  | a :: l => if l.all fun b => decide (b = a) then some a else none
theorem allSame_get {l : List E} {a : E} (h : allSame l = some a) {n : Nat} {x : E} (hx : l[n]? = some x) : x = a := by
  unfold allSame at h
  split at h
  · cases h
  · rename_i b r
    split at h
    · rename_i hall
      simp only [Option.some.injEq] at h; subst h
      cases n with
      | zero => simp at hx; exact hx.symm
      | succ n =>
        simp at hx
        have := List.all_eq_true.1 hall x (List.mem_of_getElem? hx)
        exact of_decide_eq_true this
    · cases h
def selE (e : E) (l : List E) : E :=
  match allSame (undersE e 0 l) with
  | some a => a
  | none => .app 70 (.cons e (.ofL l))
theorem selE_den {ρ : Env} {e : E} {n : Nat} (he : e.den ρ = n) {l : List E} {x : E} (h : l[n]? = some x) : (selE e l).den ρ = x.den ρ := by
  unfold selE
  split
  · rename_i a ha
    obtain ⟨y, h1, h2, _⟩ := undersE_get (l := l) (k := 0) he (Nat.zero_le _) h
    rw [← allSame_get ha h1, h2]
  · simp only [E.den, appI, E.denL, selI, denL_ofL, he, Int.toNat_natCast, List.getD_eq_getElem?_getD, List.getElem?_map, h]
    rfl
def selB (e : E) (l : List E) : E :=
  match allSame (undersE e 0 l) with
  | some a => a
  | none => .app 70 (.cons e (.ofL (l.map b2i)))
theorem selB_den {ρ : Env} {e : E} {n : Nat} (he : e.den ρ = n) {l : List E} {x : E} (h : l[n]? = some x) : (selB e l).denB ρ = x.denB ρ := by
  unfold selB
  split
  · rename_i a ha
    obtain ⟨y, h1, _, h2⟩ := undersE_get (l := l) (k := 0) he (Nat.zero_le _) h
    rw [← allSame_get ha h1, h2]
  · simp only [E.denB, appI, E.denL, selI, denL_ofL, he, Int.toNat_natCast, List.getD_eq_getElem?_getD, List.getElem?_map, h, Option.map_some, Option.getD_some, den_b2i]
    cases x.denB ρ <;> rfl
def intsOf (k : IntKind) : List SV → Option (List E)
  | [] => some []
  | .int k' e :: l => if k' = k then (intsOf k l).map (e :: ·) else none
  | _ :: _ => none
def boolsOf : List SV → Option (List E)
  | [] => some []
  | .bool e :: l => (boolsOf l).map (e :: ·)
  | _ :: _ => none
theorem intsOf_get {k : IntKind} : ∀ {l : List SV} {es : List E}, intsOf k l = some es → ∀ {n : Nat} {s : SV}, l[n]? = some s → ∃ x, es[n]? = some x ∧ s = .int k x
  | [], es, _, n, s, hs => by simp at hs
  | .int k' e :: l, es, h, n, s, hs => by
    simp only [intsOf] at h
    split at h
    · rename_i hk; subst hk
      simp only [Option.map_eq_some_iff] at h
      obtain ⟨r, h1, rfl⟩ := h
      cases n with
      | zero => simp at hs; subst hs; exact ⟨e, by simp, rfl⟩
      | succ n => simp at hs; obtain ⟨x, h2, h3⟩ := intsOf_get h1 hs; exact ⟨x, by simpa using h2, h3⟩
    · cases h
  | .bool _ :: _, _, h, _, _, _ | .ptr .. :: _, _, h, _, _, _ | .ptrx .. :: _, _, h, _, _, _ | .pnil :: _, _, h, _, _, _ | .fn .. :: _, _, h, _, _, _ | .nilfn :: _, _, h, _, _, _ | .map .. :: _, _, h, _, _, _
  | .mapnil :: _, _, h, _, _, _ | .slc .. :: _, _, h, _, _, _ | .snil :: _, _, h, _, _, _ | .ifc .. :: _, _, h, _, _, _ | .nilif :: _, _, h, _, _, _ | .val .. :: _, _, h, _, _, _ | .str .. :: _, _, h, _, _, _
  | .agg .. :: _, _, h, _, _, _ | .tup .. :: _, _, h, _, _, _ | .cond .. :: _, _, h, _, _, _ | .unk :: _, _, h, _, _, _ | .nil :: _, _, h, _, _, _ | .cons .. :: _, _, h, _, _, _ => by simp [intsOf] at h
theorem boolsOf_get : ∀ {l : List SV} {es : List E}, boolsOf l = some es → ∀ {n : Nat} {s : SV}, l[n]? = some s → ∃ x, es[n]? = some x ∧ s = .bool x
  | [], es, _, n, s, hs => by simp at hs
  | .bool e :: l, es, h, n, s, hs => by
    simp only [boolsOf, Option.map_eq_some_iff] at h
    obtain ⟨r, h1, rfl⟩ := h
    cases n with
    | zero => simp at hs; subst hs; exact ⟨e, by simp, rfl⟩
    | succ n => simp at hs; obtain ⟨x, h2, h3⟩ := boolsOf_get h1 hs; exact ⟨x, by simpa using h2, h3⟩
  | .int .. :: _, _, h, _, _, _ | .ptr .. :: _, _, h, _, _, _ | .ptrx .. :: _, _, h, _, _, _ | .pnil :: _, _, h, _, _, _ | .fn .. :: _, _, h, _, _, _ | .nilfn :: _, _, h, _, _, _ | .map .. :: _, _, h, _, _, _
  | .mapnil :: _, _, h, _, _, _ | .slc .. :: _, _, h, _, _, _ | .snil :: _, _, h, _, _, _ | .ifc .. :: _, _, h, _, _, _ | .nilif :: _, _, h, _, _, _ | .val .. :: _, _, h, _, _, _ | .str .. :: _, _, h, _, _, _
  | .agg .. :: _, _, h, _, _, _ | .tup .. :: _, _, h, _, _, _ | .cond .. :: _, _, h, _, _, _ | .unk :: _, _, h, _, _, _ | .nil :: _, _, h, _, _, _ | .cons .. :: _, _, h, _, _, _ => by simp [boolsOf] at h
def selV (e : E) (l : List SV) : Option SV :=
  match l with
  | .int k _ :: _ => (intsOf k l).map fun es => .int k (selE e es)
  | .bool _ :: _ => (boolsOf l).map fun es => .bool (selB e es)
  | a :: r => if r.all fun b => decide (b = a) then some a else none
  | [] => none
theorem selV_rel {ρ : Env} {β : List Nat} {e : E} {n : Nat} (he : e.den ρ = n) {l : List SV} {s : SV} (h : selV e l = some s) {x : SV} (hx : l[n]? = some x) {v : Value} (hv : x.rel ρ β v) : s.rel ρ β v := by
  unfold selV at h
  split at h
  · simp only [Option.map_eq_some_iff] at h
    obtain ⟨es, h1, rfl⟩ := h
    obtain ⟨y, h2, rfl⟩ := intsOf_get h1 hx
    simp only [SV.rel] at hv ⊢
    rw [selE_den he h2]; exact hv
  · simp only [Option.map_eq_some_iff] at h
    obtain ⟨es, h1, rfl⟩ := h
    obtain ⟨y, h2, rfl⟩ := boolsOf_get h1 hx
    simp only [SV.rel] at hv ⊢
    rw [selB_den he h2]; exact hv
  · rename_i a r _ _
    split at h
    · rename_i hall
      simp only [Option.some.injEq] at h; subst h
      cases n with
      | zero => simp at hx; subst hx; exact hv
      | succ n =>
        simp at hx
        have := of_decide_eq_true (List.all_eq_true.1 hall x (List.mem_of_getElem? hx))
        subst this; exact hv
    · cases h
  · cases h
/-- One row of several that lie at equal distances. -/
def colS (l : List SV) (base stride c : Nat) : Nat → Option (List SV)
  | 0 => some []
  | n + 1 => match colS l base stride c n, l[base + stride * n + c]? with
    | some r, some a => some (r ++ [a])
    | _, _ => none
theorem colS_get {l : List SV} {base stride c : Nat} : ∀ {n : Nat} {r : List SV}, colS l base stride c n = some r → r.length = n ∧ ∀ k, k < n → r[k]? = l[base + stride * k + c]?
  | 0, r, h => by simp only [colS, Option.some.injEq] at h; subst h; exact ⟨rfl, fun k hk => by omega⟩
  | n + 1, r, h => by
    simp only [colS] at h
    split at h
    · rename_i r' a h1 h2
      simp only [Option.some.injEq] at h; subst h
      obtain ⟨g1, g2⟩ := colS_get h1
      refine ⟨by simp [g1], fun k hk => ?_⟩
      by_cases hkn : k < n
      · rw [List.getElem?_append_left (by omega)]; exact g2 k hkn
      · have : k = n := by omega
        subst this
        rw [List.getElem?_append_right (by omega), g1]; simp [h2]
    · cases h
def rowS (e : E) (l : List SV) (base stride cnt : Nat) : Nat → Option (List SV)
  | 0 => some []
  | c + 1 => match rowS e l base stride cnt c, (colS l base stride c cnt).bind (selV e) with
    | some r, some a => some (r ++ [a])
    | _, _ => none
theorem rowS_rel {ρ : Env} {β : List Nat} {e : E} {n : Nat} (he : e.den ρ = n) {l : List SV} {base stride cnt : Nat} (hn : n < cnt) {vs : List Value} (hl : RelL ρ β l vs) :
    ∀ {m : Nat} {r : List SV}, rowS e l base stride cnt m = some r → RelL ρ β r ((vs.drop (base + stride * n)).take m) ∧ base + stride * n + m ≤ l.length ∨ m = 0 ∧ r = []
  | 0, r, h => by simp only [rowS, Option.some.injEq] at h; subst h; exact .inr ⟨rfl, rfl⟩
  | m + 1, r, h => by
    simp only [rowS] at h
    split at h
    · rename_i r' a h1 h2
      simp only [Option.some.injEq] at h; subst h
      simp only [Option.bind_eq_some_iff] at h2
      obtain ⟨col, h3, h4⟩ := h2
      obtain ⟨g1, g2⟩ := colS_get h3
      have g3 := g2 n hn
      have hcl : n < col.length := by omega
      obtain ⟨x, hx⟩ : ∃ x, col[n]? = some x := ⟨col[n], List.getElem?_eq_getElem hcl⟩
      rw [hx] at g3
      obtain ⟨v, hv1, hv2⟩ := hl.get g3.symm
      have ha := selV_rel he h4 hx hv2
      have hlt : base + stride * n + m < l.length := (List.getElem?_eq_some_iff.1 g3.symm).1
      left
      refine ⟨?_, by omega⟩
      have hsplit : (vs.drop (base + stride * n)).take (m + 1) = (vs.drop (base + stride * n)).take m ++ [v] := by
        rw [List.take_add_one, List.getElem?_drop, hv1]; rfl
      rw [hsplit]
      rcases rowS_rel he hn hl h1 with ⟨q, _⟩ | ⟨rfl, rfl⟩
      · exact q.append ⟨v, [], rfl, ha, rfl⟩
      · rw [List.take_zero, List.nil_append, List.nil_append]
        exact ⟨v, [], rfl, ha, rfl⟩
    · cases h
def mixL (g : E) : List SV → List SV → Option (List SV)
  | [], [] => some []
  | a :: l, b :: m => match pickV g a b, mixL g l m with
    | some x, some r => some (x :: r)
    | _, _ => none
  | _, _ => none
theorem mixL_true {ρ : Env} {β : List Nat} {g : E} (hg : g.denB ρ = true) : ∀ {l m r : List SV}, mixL g l m = some r → ∀ {vs : List Value}, RelL ρ β l vs → RelL ρ β r vs
  | [], [], r, h, vs, hl => by simp only [mixL, Option.some.injEq] at h; subst h; exact hl
  | a :: l, b :: m, r, h, vs, hl => by
    simp only [mixL] at h
    split at h
    · rename_i x r' h1 h2
      simp only [Option.some.injEq] at h; subst h
      obtain ⟨v, q, rfl, e1, e2⟩ := hl
      exact ⟨v, q, rfl, pickV_rel h1 (fun _ => e1) (fun h => by rw [hg] at h; cases h), mixL_true hg h2 e2⟩
    · cases h
  | [], _ :: _, _, h, _, _ => by simp [mixL] at h
  | _ :: _, [], _, h, _, _ => by simp [mixL] at h
theorem mixL_false {ρ : Env} {β : List Nat} {g : E} (hg : g.denB ρ = false) : ∀ {l m r : List SV}, mixL g l m = some r → ∀ {vs : List Value}, RelL ρ β m vs → RelL ρ β r vs
  | [], [], r, h, vs, hl => by simp only [mixL, Option.some.injEq] at h; subst h; exact hl
  | a :: l, b :: m, r, h, vs, hl => by
    simp only [mixL] at h
    split at h
    · rename_i x r' h1 h2
      simp only [Option.some.injEq] at h; subst h
      obtain ⟨v, q, rfl, e1, e2⟩ := hl
      exact ⟨v, q, rfl, pickV_rel h1 (fun h => by rw [hg] at h; cases h) (fun _ => e1), mixL_false hg h2 e2⟩
    · cases h
  | [], _ :: _, _, h, _, _ => by simp [mixL] at h
  | _ :: _, [], _, h, _, _ => by simp [mixL] at h
theorem mixL_length {g : E} : ∀ {l m r : List SV}, mixL g l m = some r → r.length = l.length
  | [], [], r, h => by simp only [mixL, Option.some.injEq] at h; subst h; rfl
  | a :: l, b :: m, r, h => by
    simp only [mixL] at h
    split at h
    · rename_i x r' h1 h2
      simp only [Option.some.injEq] at h; subst h
      simp [mixL_length h2]
    · cases h
  | [], _ :: _, _, h => by simp [mixL] at h
  | _ :: _, [], _, h => by simp [mixL] at h

/-- A value of one cell, surely. -/
def isCell : SV → Bool
  | .int .. | .bool .. | .ptr .. | .ptrx .. | .pnil | .fn .. | .nilfn | .map .. | .mapnil | .slc .. | .snil | .ifc .. | .nilif | .val .. | .str .. => true
  | _ => false
def scells : SV → Option (List SV)
  | .agg l => if l.toL.all isCell then some l.toL else none
  | s => if isCell s then some [s] else none
theorem isCell_one {ρ : Env} {β : List Nat} {s : SV} (h : isCell s = true) {v : Value} (hv : s.rel ρ β v) : v.oneCell' = true ∧ v.cells = #[v] := by
  cases s <;> simp [isCell] at h <;> simp only [SV.rel] at hv
  case int => subst hv; exact ⟨rfl, rfl⟩
  case bool => subst hv; exact ⟨rfl, rfl⟩
  case ptr => obtain ⟨b, _, rfl⟩ := hv; exact ⟨rfl, rfl⟩
  case ptrx => obtain ⟨b, _, _, _, rfl⟩ := hv; exact ⟨rfl, rfl⟩
  case pnil => subst hv; exact ⟨rfl, rfl⟩
  case fn => obtain ⟨b, _, rfl⟩ := hv; exact ⟨rfl, rfl⟩
  case nilfn => subst hv; exact ⟨rfl, rfl⟩
  case map => obtain ⟨b, _, rfl⟩ := hv; exact ⟨rfl, rfl⟩
  case mapnil => subst hv; exact ⟨rfl, rfl⟩
  case slc => obtain ⟨b, _, n, c, _, _, rfl⟩ := hv; exact ⟨rfl, rfl⟩
  case snil => subst hv; exact ⟨rfl, rfl⟩
  case ifc => obtain ⟨b, _, rfl⟩ := hv; exact ⟨rfl, rfl⟩
  case nilif => subst hv; exact ⟨rfl, rfl⟩
  case str l => subst hv; exact ⟨rfl, rfl⟩
  case val i =>
    subst hv
    have := ρ.vc i
    refine ⟨this, ?_⟩
    revert this
    cases ρ.v i <;> simp [Value.oneCell', Value.cells]
theorem cells_one {ρ : Env} {β : List Nat} : ∀ {l : List SV} {vs : List Value}, RelL ρ β l vs → l.all isCell = true → ∀ v ∈ vs, v.oneCell' = true
  | [], vs, h, _ => by simp [RelL] at h; simp [h]
  | a :: l, vs, h, ha => by
    obtain ⟨v, r, rfl, h1, h2⟩ := h
    simp only [List.all_cons, Bool.and_eq_true] at ha
    intro x hx
    rcases List.mem_cons.1 hx with rfl | hx
    · exact (isCell_one ha.1 h1).1
    · exact cells_one h2 ha.2 x hx
theorem scells_rel {ρ : Env} {β : List Nat} {s : SV} {l : List SV} (h : scells s = some l) {v : Value} (hv : s.rel ρ β v) :
    RelL ρ β l v.cells.toList ∧ ∀ x ∈ v.cells.toList, x.oneCell' = true := by
  unfold scells at h
  split at h
  · rename_i l'
    split at h
    · rename_i hc; simp only [Option.some.injEq] at h; subst h
      simp only [SV.rel] at hv
      obtain ⟨vs, h1, rfl⟩ := hv
      have := relS_toL h1
      exact ⟨by simpa [Value.cells] using this, by simpa [Value.cells] using cells_one this hc⟩
    · simp at h
  · split at h
    · rename_i hc; simp only [Option.some.injEq] at h; subst h
      obtain ⟨h1, h2⟩ := isCell_one hc hv
      rw [h2]
      exact ⟨⟨v, [], rfl, hv, rfl⟩, by simpa using h1⟩
    · simp at h

def splice {α : Type} (l : List α) (off : Nat) (new : List α) : List α := l.take off ++ (new ++ l.drop (off + new.length))
theorem splice_length {α : Type} {l : List α} {off : Nat} {new : List α} (h : off + new.length ≤ l.length) : (splice l off new).length = l.length := by
  simp [splice]; omega
theorem RelL.splice {ρ : Env} {β : List Nat} {l : List SV} {vs : List Value} (h : RelL ρ β l vs) (off : Nat) {n : List SV} {ns : List Value} (hn : RelL ρ β n ns) :
    RelL ρ β (Sx.splice l off n) (Sx.splice vs off ns) := by
  unfold Sx.splice
  rw [hn.length]
  exact (h.take off).append (hn.append (h.drop _))
theorem splice_nil {α : Type} (l : List α) (off : Nat) : splice l off [] = l := by simp [splice]
theorem splice_cons {α : Type} {l : List α} {off : Nat} {a : α} {new : List α} (h : off < l.length) : splice (l.set off a) (off + 1) new = splice l off (a :: new) := by
  unfold splice
  rw [List.take_set, List.drop_set_of_lt (by omega)]
  have : (List.take (off + 1) l).set off a = List.take off l ++ [a] := by
    rw [List.take_succ_eq_append_getElem h, List.set_append_right _ _ (by simp; omega)]
    simp [Nat.min_eq_left (Nat.le_of_lt h)]
  rw [this]
  simp [Nat.add_assoc, Nat.add_comm 1]

theorem splice_self {α : Type} (l : List α) (off m : Nat) : splice l off ((l.drop off).take m) = l := by
  unfold splice
  have e : (l.drop off).take m ++ l.drop (off + ((l.drop off).take m).length) = l.drop off := by
    rw [← List.drop_drop]
    by_cases h : m ≤ (l.drop off).length
    · rw [List.length_take, Nat.min_eq_left h, List.take_append_drop]
    · rw [List.take_of_length_le (by omega), List.drop_of_length_le (Nat.le_refl _), List.append_nil]
  rw [e, List.take_append_drop]
/-- A row is put at one of several places. -/
def putRow (e : E) (new : List SV) (base stride : Nat) : Nat → List SV → Option (List SV)
  | 0, l => some l
  | n + 1, l => match putRow e new base stride n l with
    | some l' => if base + stride * n + new.length ≤ l'.length then (mixL (.mkEq e (.lit n)) new ((l'.drop (base + stride * n)).take new.length)).map fun m => splice l' (base + stride * n) m else none
    | none => none
theorem putRow_length {e : E} {new : List SV} {base stride : Nat} : ∀ {n : Nat} {l r : List SV}, putRow e new base stride n l = some r → r.length = l.length
  | 0, l, r, h => by simp only [putRow, Option.some.injEq] at h; subst h; rfl
  | n + 1, l, r, h => by
    simp only [putRow] at h
    split at h
    · rename_i l' h1
      split at h
      · rename_i hle
        simp only [Option.map_eq_some_iff] at h
        obtain ⟨m, h2, rfl⟩ := h
        rw [splice_length (by rw [mixL_length h2]; exact hle), putRow_length h1]
      · cases h
    · cases h
theorem putRow_rel {ρ : Env} {β : List Nat} {e : E} {j : Nat} (he : e.den ρ = j) {new : List SV} {ns : List Value} (hnew : RelL ρ β new ns) {base stride : Nat} {vs : List Value} :
    ∀ {n : Nat} {l r : List SV}, RelL ρ β l vs → putRow e new base stride n l = some r → RelL ρ β r (if j < n then splice vs (base + stride * j) ns else vs) ∧ (j < n → base + stride * j + ns.length ≤ vs.length)
  | 0, l, r, hl, h => by simp only [putRow, Option.some.injEq] at h; subst h; exact ⟨by simpa using hl, fun h => by omega⟩
  | n + 1, l, r, hl, h => by
    have hlr := putRow_length h
    simp only [putRow] at h
    split at h
    · rename_i l' h1
      split at h
      · rename_i hle
        simp only [Option.map_eq_some_iff] at h
        obtain ⟨m, h2, rfl⟩ := h
        obtain ⟨ih, ih2⟩ := putRow_rel he hnew hl h1
        have hll : l'.length = vs.length := by rw [putRow_length h1, hl.length]
        have hnl := hnew.length
        by_cases hj : j = n
        · subst hj
          rw [if_neg (by omega)] at ih
          have hg : (E.mkEq e (.lit (j : Int))).denB ρ = true := by simp [E.den, he]
          rw [if_pos (by omega)]
          exact ⟨ih.splice _ (mixL_true hg h2 hnew), fun _ => by omega⟩
        · have hg : (E.mkEq e (.lit (n : Int))).denB ρ = false := by simp [E.den, he]; omega
          have h3 := mixL_false hg h2 ((ih.drop (base + stride * n)).take new.length)
          have h4 := ih.splice (base + stride * n) h3
          rw [splice_self] at h4
          by_cases hjn : j < n
          · rw [if_pos hjn] at h4
            rw [if_pos (by omega)]
            exact ⟨h4, fun _ => ih2 hjn⟩
          · rw [if_neg hjn] at h4
            rw [if_neg (by omega)]
            exact ⟨h4, fun h => by omega⟩
      · cases h
    · cases h

/-- The model's own filling of a place, cell by cell. -/
theorem foldl_splice (off : Nat) : ∀ (vs : List Value) (j : Nat) (cs : Array Value), off + j + vs.length ≤ cs.size →
    (vs.zipIdx j).foldl (fun cs (x : Value × Nat) => cs.setIfInBounds (off + x.2) x.1) cs = (splice cs.toList (off + j) vs).toArray
  | [], j, cs, _ => by simp [splice_nil]
  | v :: vs, j, cs, h => by
    simp only [List.length_cons] at h
    rw [List.zipIdx_cons, List.foldl_cons, foldl_splice off vs (j + 1) _ (by simp; omega)]
    simp only [Array.toList_setIfInBounds]
    rw [← Nat.add_assoc, splice_cons (by simp; omega)]

def fillS (place : Nat → Option (Nat × Nat)) : List SV → List (Nat × SV) → Option (List SV)
  | cells, [] => some cells
  | cells, (i, s) :: rest =>
    match place i, scells s with
    | some (off, size), some l => if l.length ≠ size ∨ off + l.length > cells.length then none else fillS place (splice cells off l) rest
    | _, _ => none
def RelP (ρ : Env) (β : List Nat) : List (Nat × SV) → List (Nat × Value) → Prop
  | [], vs => vs = []
  | (i, s) :: l, vs => ∃ v r, vs = (i, v) :: r ∧ s.rel ρ β v ∧ RelP ρ β l r
theorem RelP.map {ρ : Env} {β : List Nat} {ev : Operand → SV} {e : Operand → Value} (h : ∀ x, (ev x).rel ρ β (e x)) :
    ∀ (l : List (Nat × Operand)), RelP ρ β (l.map fun (i, x) => (i, ev x)) (l.map fun (i, x) => (i, e x))
  | [] => rfl
  | (i, x) :: l => ⟨e x, _, rfl, h x, RelP.map h l⟩
theorem fillS_rel {ρ : Env} {β : List Nat} {place : Nat → Option (Nat × Nat)} : ∀ {parts : List (Nat × SV)} {vparts : List (Nat × Value)}, RelP ρ β parts vparts →
    ∀ {cells : List SV} {vs : Array Value} {out : List SV}, RelL ρ β cells vs.toList → fillS place cells parts = some out →
    ∃ vo, Instr.fill place vs vparts = some vo ∧ RelL ρ β out vo.toList
  | [], vparts, h, cells, vs, out, hc, ho => by
    simp [RelP] at h; subst h
    simp [fillS] at ho; subst ho
    exact ⟨vs, by simp [Instr.fill], hc⟩
  | (i, s) :: parts, vparts, h, cells, vs, out, hc, ho => by
    obtain ⟨v, r, rfl, h1, h2⟩ := h
    simp only [fillS] at ho
    split at ho
    · rename_i off size l hp hl
      split at ho
      · simp at ho
      · rename_i hn
        obtain ⟨hr, _⟩ := scells_rel hl h1
        have hlen : l.length = v.cells.size := by simpa using hr.length
        have hcl : cells.length = vs.size := by simpa using hc.length
        have hn1 : v.cells.size = size := by omega
        have hn2 : off + v.cells.size ≤ vs.size := by omega
        simp only [Instr.fill, hp]
        rw [if_neg (by simp [hn1]; omega)]
        have hf := foldl_splice off v.cells.toList 0 vs (by simpa using hn2)
        have : (v.cells.zipIdx.foldl (fun cs (x : Value × Nat) => cs.setIfInBounds (off + x.2) x.1) vs) = (splice vs.toList off v.cells.toList).toArray := by
          rw [← Array.foldl_toList, Array.toList_zipIdx]; simpa using hf
        rw [this]
        exact fillS_rel h2 (by simpa using hc.splice off hr) ho
    · simp at ho

/-- Where the parts of a literal go. -/
def placesOf (P : Program) (t : TypeId) : Option (Nat → Option (Nat × Nat)) :=
  match P.underlying t with
  | some (.struct fields) => if (fields.toList.all fun f => (P.info? f.type).isSome) then some fun i => (fields[i]?).map fun f => (f.offset, P.cellsOf f.type) else none
  | some (.array _ elem) => if (P.info? elem).isSome then some fun i => some (i * P.cellsOf elem, P.cellsOf elem) else none
  | _ => none

def zeroS (P : Program) (t : TypeId) : Option SV := ((P.info? t).bind (·.zero)).map ofZero
theorem run_zeroS {P : Program} {t : TypeId} {s : SV} (h : zeroS P t = some s) (ρ : Env) (β : List Nat) : ∃ v, s.rel ρ β v ∧ ∀ w, (zeroValue t).run P w = .ok v w := by
  unfold zeroS at h
  cases hi : P.info? t with
  | none => simp [hi] at h
  | some i =>
    cases hz : i.zero with
    | none => simp [hi, hz] at h
    | some z =>
      simp [hi, hz] at h
      subst h
      exact ⟨z, ofZero_rel ρ β z, fun w => by simp [zeroValue, typeInfo, hi, hz]⟩
theorem run_sizeOf' {P : Program} {t : TypeId} (h : (P.info? t).isSome = true) (w : World) : (sizeOf t).run P w = .ok (P.cellsOf t) w := by
  obtain ⟨i, hi⟩ := Option.isSome_iff_exists.1 h
  simp [sizeOf, typeInfo, hi, Program.cellsOf]

theorem run_places {P : Program} : ∀ (fs : List Field) (w : World), (∀ f ∈ fs, (P.info? f.type).isSome = true) →
    (fs.mapM (fun f => (do pure (f.offset, ← sizeOf f.type) : Sem (Nat × Nat)))).run P w = .ok (fs.map fun f => (f.offset, P.cellsOf f.type)) w
  | [], w, _ => by simp
  | f :: fs, w, h => by
    have ih := run_places fs w (fun g hg => h g (by simp [hg]))
    simp only [List.mapM_cons, Sem.run_bind, run_sizeOf' (h f (by simp)), Result.andThen_ok, ih, List.map_cons, Sem.run_pure]

def buildS (P : Program) (t : TypeId) (parts : List (Nat × SV)) : Option SV :=
  match zeroS P t, placesOf P t with
  | some z, some pl => match scells z with
    | some cells => (fillS pl cells parts).map fun l => .agg (.ofL l)
    | none => none
  | _, _ => none
theorem run_buildS {P : Program} {t : TypeId} {parts : List (Nat × SV)} {s : SV} (h : buildS P t parts = some s) {ρ : Env} {β : List Nat} {vparts : Array (Nat × Value)}
    (hp : RelP ρ β parts vparts.toList) : ∃ v, s.rel ρ β v ∧ ∀ w, (Instr.build t vparts).run P w = .ok v w := by
  unfold buildS at h
  split at h
  · rename_i z pl hz hpl
    split at h
    · rename_i cells hc
      obtain ⟨zv, hzr, hzrun⟩ := run_zeroS hz ρ β
      obtain ⟨hcr, _⟩ := scells_rel hc hzr
      cases hf : fillS pl cells parts with
      | none => simp [hf] at h
      | some out =>
        simp only [hf, Option.map_some, Option.some.injEq] at h
        subst h
        obtain ⟨vo, hvo, hro⟩ := fillS_rel hp hcr hf
        refine ⟨.agg vo, ⟨vo.toList, relS_ofL hro, by simp⟩, fun w => ?_⟩
        unfold placesOf at hpl
        cases hu : P.underlying t with
        | none => simp [hu] at hpl
        | some d =>
          cases d <;> simp [hu] at hpl
          case struct fields =>
            obtain ⟨ha, rfl⟩ := hpl
            have hpm := run_places (P := P) fields.toList w (fun f hf => by
              obtain ⟨i, hi, rfl⟩ := List.getElem_of_mem hf
              simpa using ha i (by simpa using hi))
            have e : (fields.mapM (fun f => (do pure (f.offset, ← sizeOf f.type) : Sem (Nat × Nat)))).run P w = .ok (fields.map fun f => (f.offset, P.cellsOf f.type)) w := by
              rw [← Array.toArray_toList (xs := fields), List.mapM_toArray, Sem.run_map, hpm]
              rw [Result.andThen_ok, List.map_toArray]
            simp only [Instr.build, Sem.run_bind, hzrun, Result.andThen_ok, run_underlying hu, e]
            have e2 : (fun (i : Nat) => ((fields.map fun (f : Field) => (f.offset, P.cellsOf f.type)))[i]?) = fun i => (fields[i]?).map fun f => (f.offset, P.cellsOf f.type) := by
              funext i; simp
            rw [e2, hvo]
            rfl
          case array n elem =>
            obtain ⟨ha, rfl⟩ := hpl
            simp only [Instr.build, Sem.run_bind, hzrun, Result.andThen_ok, run_underlying hu, run_sizeOf' ha, hvo]
            rfl
    · simp at h
  · simp at h
end Go.Sx
