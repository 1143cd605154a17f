/- Values that are known in part, with expressions over an environment: what they stand for in the model. -/
import Derived.Orders
import Derived.LoopN
import Derived.Scope
import Derived.Defers
import Derived.Laws.Sem
namespace Go.Sx
set_option linter.unusedVariables false

/-- Whole numbers and truth values by name, and what is made of them. -/
inductive E
  | lit (n : Int) | var (i : Nat) | bvar (i : Nat)
  | bin (op : BinOp) (k : IntKind) (a b : E)
  | wrap (k : IntKind) (a : E)
  | lt (a b : E) | le (a b : E) | eq (a b : E) | beq (a b : E)
  | not (a : E) | ite (c a b : E)
  | app (f : Nat) (args : E) | nil | cons (a b : E)
  deriving DecidableEq, Repr, Inhabited

structure Env where
  i : Nat → Int
  b : Nat → Bool
  v : Nat → Value
  I : Nat → List Int → Int
  vc : ∀ i, (v i).oneCell' = true

def arith (op : BinOp) (k : IntKind) (x y : Int) : Int :=
  match op with
  | .add => k.wrap (x + y)
  | .sub => k.wrap (x - y)
  | .mul => k.wrap (x * y)
  | .quo => k.wrap (x.tdiv y)
  | .rem => x.tmod y
  | .and => k.wrap (BitVec.ofInt k.bits x &&& BitVec.ofInt k.bits y).toNat
  | .or => k.wrap (BitVec.ofInt k.bits x ||| BitVec.ofInt k.bits y).toNat
  | .xor => k.wrap (BitVec.ofInt k.bits x ^^^ BitVec.ofInt k.bits y).toNat
  | .andNot => k.wrap (BitVec.ofInt k.bits x &&& ~~~(BitVec.ofInt k.bits y)).toNat
  | .shl => k.wrap (x * 2 ^ (min y.toNat k.bits))
  | .shr => x.fdiv (2 ^ (min y.toNat k.bits))
  | _ => 0

/-- One of a list, by its place. -/
def selI : List Int → Int
  | i :: l => l.getD i.toNat 0
  | [] => 0
/-- What a function of a number yields: from 200 on a word, from 300 on 0 or 1, from 400 on a number of 64 bits. -/
def clampF (f : Nat) (x : Int) : Int := if f < 200 then x else if f < 300 then IntKind.u32.wrap x else if f < 400 then (if x = 0 then 0 else 1) else IntKind.i64.wrap x
def appI (ρ : Env) (f : Nat) (l : List Int) : Int :=
  match f with
  | 70 => selI l
  | f => clampF f (ρ.I f l)

mutual
def E.den (ρ : Env) : E → Int
  | .lit n => n
  | .var i => ρ.i i
  | .bvar i => if ρ.b i then 1 else 0
  | .bin op k a b => arith op k (a.den ρ) (b.den ρ)
  | .wrap k a => k.wrap (a.den ρ)
  | .lt _ _ => 0 | .le _ _ => 0 | .eq _ _ => 0 | .beq _ _ => 0 | .not _ => 0
  | .ite c a b => if c.denB ρ then a.den ρ else b.den ρ
  | .app f args => appI ρ f (args.denL ρ)
  | .nil => 0 | .cons _ _ => 0
def E.denB (ρ : Env) : E → Bool
  | .lit n => n != 0
  | .var _ => false
  | .bvar i => ρ.b i
  | .bin .. => false | .wrap .. => false
  | .lt a b => decide (a.den ρ < b.den ρ)
  | .le a b => decide (a.den ρ ≤ b.den ρ)
  | .eq a b => a.den ρ == b.den ρ
  | .beq a b => a.denB ρ == b.denB ρ
  | .not a => !a.denB ρ
  | .ite c a b => if c.denB ρ then a.denB ρ else b.denB ρ
  | .app f args => appI ρ f (args.denL ρ) != 0
  | .nil => false | .cons _ _ => false
def E.denL (ρ : Env) : E → List Int
  | .cons a b => a.den ρ :: b.denL ρ
  | _ => []
end

def tt : E := .lit 1
def ff : E := .lit 0

/-- What a number is, by what is known. -/
def lookE (e : E) : List E → Option Int
  | [] => none
  | .eq a (.lit n) :: l => if a = e then some n else lookE e l
  | _ :: l => lookE e l
def valE (path : List E) : E → Option Int
  | .lit n => some n
  | .wrap k a => (valE path a).map k.wrap
  | .var i => lookE (.var i) path
  | .app f a => lookE (.app f a) path
  | _ => none
theorem lookE_sound {ρ : Env} {e : E} {n : Int} : ∀ {path : List E}, (∀ e ∈ path, e.denB ρ = true) → lookE e path = some n → e.den ρ = n
  | [], _, h => by simp [lookE] at h
  | x :: l, hp, h => by
    unfold lookE at h
    split at h
    · cases h
    · rename_i a m l' heq
      simp only [List.cons.injEq] at heq
      obtain ⟨rfl, rfl⟩ := heq
      split at h
      · rename_i ha; subst ha
        simp only [Option.some.injEq] at h; subst h
        have := hp _ (List.mem_cons_self ..)
        simpa [E.denB, E.den] using this
      · exact lookE_sound (fun e he => hp e (List.mem_cons_of_mem _ he)) h
    · rename_i y l' hy heq
      simp only [List.cons.injEq] at heq
      obtain ⟨rfl, rfl⟩ := heq
      exact lookE_sound (fun e he => hp e (List.mem_cons_of_mem _ he)) h
theorem valE_sound {ρ : Env} {path : List E} (hp : ∀ e ∈ path, e.denB ρ = true) : ∀ {e : E} {n : Int}, valE path e = some n → e.den ρ = n
  | .lit m, n, h => by simpa [valE, E.den] using h
  | .wrap k a, n, h => by
    simp only [valE, Option.map_eq_some_iff] at h
    obtain ⟨m, h1, rfl⟩ := h
    rw [E.den, valE_sound hp h1]
  | .var i, n, h => lookE_sound hp h
  | .app f a, n, h => lookE_sound hp h
  | .bvar _, _, h => by simp [valE] at h
  | .bin .., _, h => by simp [valE] at h
  | .lt .., _, h => by simp [valE] at h
  | .le .., _, h => by simp [valE] at h
  | .eq .., _, h => by simp [valE] at h
  | .beq .., _, h => by simp [valE] at h
  | .not .., _, h => by simp [valE] at h
  | .ite .., _, h => by simp [valE] at h
  | .nil, _, h => by simp [valE] at h
  | .cons .., _, h => by simp [valE] at h
/-- What is known of a condition. -/
def decide0 (path : List E) (e : E) : Option Bool :=
  if path.contains e then some true else if path.contains (.not e) then some false else none
def decide1 (path : List E) (e : E) : Option Bool :=
  match e with
  | .lit n => some (n != 0)
  | .not a => if path.contains (.not a) then some true else if path.contains a then some false else none
  | .eq a b => match valE path a, valE path b with
    | some x, some y => some (x == y)
    | _, _ => decide0 path (.eq a b)
  | .lt a b => match valE path a, valE path b with
    | some x, some y => some (decide (x < y))
    | _, _ => decide0 path (.lt a b)
  | .le a b => match valE path a, valE path b with
    | some x, some y => some (decide (x ≤ y))
    | _, _ => decide0 path (.le a b)
  | e => decide0 path e
def decideE (path : List E) : E → Option Bool
  | .ite c a b => match decide1 path (.ite c a b) with
    | some r => some r
    | none => match decideE path c with
      | some true => decideE path a
      | some false => decideE path b
      | none => match decideE path a, decideE path b with
        | some true, some true => some true
        | some false, some false => some false
        | _, _ => none
  | .not a => match decide1 path (.not a) with
    | some r => some r
    | none => (decideE path a).map not
  | e => decide1 path e

theorem decide0_sound {ρ : Env} {path : List E} (hp : ∀ e ∈ path, e.denB ρ = true) {e : E} {b : Bool} (h : decide0 path e = some b) : e.denB ρ = b := by
  unfold decide0 at h
  split at h
  · rename_i h1; simp only [Option.some.injEq] at h; rw [← h]; exact hp _ (List.contains_iff_mem.1 h1)
  · split at h
    · rename_i h1; simp only [Option.some.injEq] at h; rw [← h]; have := hp _ (List.contains_iff_mem.1 h1); simp [E.denB] at this; exact this
    · simp at h
theorem decide1_sound {ρ : Env} {path : List E} (hp : ∀ e ∈ path, e.denB ρ = true) {e : E} {b : Bool} (h : decide1 path e = some b) : e.denB ρ = b := by
  unfold decide1 at h
  split at h
  · simp only [Option.some.injEq] at h; simp [E.denB, h]
  · rename_i a
    split at h
    · rename_i h1; simp only [Option.some.injEq] at h; rw [← h]; exact hp _ (by simpa using h1)
    · split at h
      · rename_i h1; simp only [Option.some.injEq] at h; rw [← h]; have := hp _ (show a ∈ path by simpa using h1); simp [E.denB, this]
      · simp at h
  · split at h
    · rename_i x y h1 h2
      simp only [Option.some.injEq] at h; subst h
      rw [E.denB, valE_sound hp h1, valE_sound hp h2]
    · exact decide0_sound hp h
  · split at h
    · rename_i x y h1 h2
      simp only [Option.some.injEq] at h; subst h
      rw [E.denB, valE_sound hp h1, valE_sound hp h2]
    · exact decide0_sound hp h
  · split at h
    · rename_i x y h1 h2
      simp only [Option.some.injEq] at h; subst h
      rw [E.denB, valE_sound hp h1, valE_sound hp h2]
    · exact decide0_sound hp h
  · exact decide0_sound hp h
theorem decideE_sound {ρ : Env} {path : List E} (hp : ∀ e ∈ path, e.denB ρ = true) {e : E} : ∀ {b : Bool}, decideE path e = some b → e.denB ρ = b := by
  induction e with
  | ite c a b ihc iha ihb =>
    intro r h
    simp only [decideE] at h
    split at h
    · rename_i r' h1; simp only [Option.some.injEq] at h; subst h; exact decide1_sound hp h1
    · split at h
      · rename_i hc; simp only [E.denB, ihc hc, if_true]; exact iha h
      · rename_i hc; simp only [E.denB, ihc hc, Bool.false_eq_true, if_false]; exact ihb h
      · split at h
        · rename_i ha hb; simp only [Option.some.injEq] at h; subst h; simp [E.denB, iha ha, ihb hb]
        · rename_i ha hb; simp only [Option.some.injEq] at h; subst h; simp [E.denB, iha ha, ihb hb]
        · simp at h
  | not a ih =>
    intro r h
    simp only [decideE] at h
    split at h
    · rename_i r' h1; simp only [Option.some.injEq] at h; subst h; exact decide1_sound hp h1
    · cases ha : decideE path a with
      | none => simp [ha] at h
      | some x => simp [ha] at h; subst h; simp [E.denB, ih ha]
  | _ => intro r h; exact decide1_sound hp h

def E.mkNot : E → E
  | .lit n => if n == 0 then tt else ff
  | .not a => a
  | a => .not a
@[simp] theorem E.denB_mkNot (ρ : Env) (a : E) : (E.mkNot a).denB ρ = !a.denB ρ := by
  unfold E.mkNot; split
  · rename_i n; by_cases h : n = 0 <;> simp [h, tt, ff, E.denB]
  · simp [E.denB]
  · simp [E.denB]
def E.mkBin (op : BinOp) (k : IntKind) (a b : E) : E :=
  match a, b with
  | .lit x, .lit y => .lit (arith op k x y)
  | a, b => .bin op k a b
@[simp] theorem E.den_mkBin (ρ : Env) (op : BinOp) (k : IntKind) (a b : E) : (E.mkBin op k a b).den ρ = arith op k (a.den ρ) (b.den ρ) := by
  unfold E.mkBin; split <;> simp [E.den]
def E.mkWrap (k : IntKind) (a : E) : E :=
  match a with
  | .lit x => .lit (k.wrap x)
  | a => .wrap k a
@[simp] theorem E.den_mkWrap (ρ : Env) (k : IntKind) (a : E) : (E.mkWrap k a).den ρ = k.wrap (a.den ρ) := by
  unfold E.mkWrap; split <;> simp [E.den]
def E.ofB (b : Bool) : E := if b then tt else ff
@[simp] theorem E.denB_ofB (ρ : Env) (b : Bool) : (E.ofB b).denB ρ = b := by cases b <;> rfl
def E.mkLt (a b : E) : E :=
  match a, b with
  | .lit x, .lit y => .ofB (decide (x < y))
  | a, b => .lt a b
@[simp] theorem E.denB_mkLt (ρ : Env) (a b : E) : (E.mkLt a b).denB ρ = decide (a.den ρ < b.den ρ) := by
  unfold E.mkLt; split
  · simp only [E.den, E.denB_ofB]; exact decide_eq_decide.2 Iff.rfl
  · simp only [E.denB]
def E.mkLe (a b : E) : E :=
  match a, b with
  | .lit x, .lit y => .ofB (decide (x ≤ y))
  | a, b => .le a b
@[simp] theorem E.denB_mkLe (ρ : Env) (a b : E) : (E.mkLe a b).denB ρ = decide (a.den ρ ≤ b.den ρ) := by
  unfold E.mkLe; split
  · simp only [E.den, E.denB_ofB]; exact decide_eq_decide.2 Iff.rfl
  · simp only [E.denB]
def E.mkEq (a b : E) : E :=
  match a, b with
  | .lit x, .lit y => .ofB (x == y)
  | a, b => if a = b then tt else .eq a b
@[simp] theorem E.denB_mkEq (ρ : Env) (a b : E) : (E.mkEq a b).denB ρ = (a.den ρ == b.den ρ) := by
  unfold E.mkEq; split
  · simp [E.den]
  · split
    · rename_i h; subst h; simp [tt, E.denB]
    · simp [E.denB]
def E.mkBeq (a b : E) : E :=
  match a, b with
  | .lit x, b => if x == 0 then .mkNot b else b
  | a, .lit y => if y == 0 then .mkNot a else a
  | a, b => if a = b then tt else .beq a b
@[simp] theorem E.denB_mkBeq (ρ : Env) (a b : E) : (E.mkBeq a b).denB ρ = (a.denB ρ == b.denB ρ) := by
  unfold E.mkBeq; split
  · rename_i x; by_cases h : x = 0
    · simp [h, E.denB]
    · have h' : (x != 0) = true := by simpa using h
      simp [h, E.denB, h']
  · rename_i y _; by_cases h : y = 0
    · simp [h, E.denB]
    · have h' : (y != 0) = true := by simpa using h
      simp [h, E.denB, h']
  · split
    · rename_i h; subst h; simp [tt, E.denB]
    · simp [E.denB]
/-- a and b -/
def E.mkAnd (a b : E) : E :=
  match a, b with
  | .lit x, b => if x == 0 then ff else b
  | a, .lit y => if y == 0 then ff else a
  | a, b => .ite a b ff
@[simp] theorem E.denB_mkAnd (ρ : Env) (a b : E) : (E.mkAnd a b).denB ρ = (a.denB ρ && b.denB ρ) := by
  unfold E.mkAnd; split
  · rename_i x; by_cases h : x = 0 <;> simp [h, ff, E.denB]
  · rename_i y _; by_cases h : y = 0 <;> simp [h, ff, E.denB]
  · simp only [E.denB, ff]; cases a.denB ρ <;> simp
/-- a truth value: if c then a else b -/
def E.mkIteB (c a b : E) : E :=
  match c, a, b with
  | .lit x, a, b => if x == 0 then b else a
  | c, .lit 1, b => match b with | .lit 0 => c | b => .ite c tt b
  | c, a, b => .ite c a b
@[simp] theorem E.denB_mkIteB (ρ : Env) (c a b : E) : (E.mkIteB c a b).denB ρ = if c.denB ρ then a.denB ρ else b.denB ρ := by
  unfold E.mkIteB; split
  · rename_i x; by_cases h : x = 0 <;> simp [h, E.denB]
  · split
    · simp only [E.denB]; cases c.denB ρ <;> simp
    · simp [E.denB, tt]
  · simp [E.denB]
def E.mkIte (c a b : E) : E :=
  match c with
  | .lit x => if x == 0 then b else a
  | c => if a = b then a else .ite c a b
@[simp] theorem E.den_mkIte (ρ : Env) (c a b : E) : (E.mkIte c a b).den ρ = if c.denB ρ then a.den ρ else b.den ρ := by
  unfold E.mkIte; split
  · rename_i x; by_cases h : x = 0 <;> simp [h, E.denB]
  · split
    · rename_i h; subst h; simp
    · simp [E.den]

/- Makers that reckon what they can. -/
/- What follows at once from a condition, from its contrary. -/
mutual
def E.holdsT : E → List E
  | .ite c a b => .ite c a b :: (if b = .lit 0 then c.holdsT ++ a.holdsT else [])
  | .not a => a.holdsF
  | e => [e]
def E.holdsF : E → List E
  | .ite c a b => .not (.ite c a b) :: (if a = .lit 1 then c.holdsF ++ b.holdsF else [])
  | .not a => a.holdsT
  | e => [.not e]
end
theorem E.holds_both (ρ : Env) (e : E) : (e.denB ρ = true → ∀ x ∈ e.holdsT, x.denB ρ = true) ∧ (e.denB ρ = false → ∀ x ∈ e.holdsF, x.denB ρ = true) := by
  induction e with
  | ite c a b ihc iha ihb =>
    constructor
    · intro h x hx
      simp only [E.holdsT, List.mem_cons] at hx
      rcases hx with rfl | hx
      · exact h
      · split at hx
        · rename_i hb; subst hb
          simp only [E.denB] at h
          have hc : c.denB ρ = true := by cases hc : c.denB ρ <;> simp [hc] at h ⊢
          have ha : a.denB ρ = true := by simpa [hc] using h
          rcases List.mem_append.1 hx with hx | hx
          · exact ihc.1 hc x hx
          · exact iha.1 ha x hx
        · simp at hx
    · intro h x hx
      simp only [E.holdsF, List.mem_cons] at hx
      rcases hx with rfl | hx
      · simp only [E.denB] at h ⊢; rw [h]; rfl
      · split at hx
        · rename_i ha; subst ha
          simp only [E.denB] at h
          have hc : c.denB ρ = false := by cases hc : c.denB ρ <;> simp [hc] at h ⊢
          have hb : b.denB ρ = false := by simpa [hc] using h
          rcases List.mem_append.1 hx with hx | hx
          · exact ihc.2 hc x hx
          · exact ihb.2 hb x hx
        · simp at hx
  | not a ih =>
    constructor
    · intro h x hx
      simp only [E.holdsT] at hx
      exact ih.2 (by simpa [E.denB] using h) x hx
    · intro h x hx
      simp only [E.holdsF] at hx
      exact ih.1 (by simpa [E.denB] using h) x hx
  | _ =>
    constructor
    · intro h x hx
      simp only [E.holdsT, List.mem_singleton] at hx; subst hx; exact h
    · intro h x hx
      simp only [E.holdsF, List.mem_singleton] at hx; subst hx
      rw [E.denB, h]; rfl
def assumeT (e : E) (path : List E) : List E := e.holdsT ++ path
def assumeF (e : E) (path : List E) : List E := e.holdsF ++ path

/-- A value that is known in part. -/
inductive SV
  | int (k : IntKind) (e : E) | bool (e : E)
  | ptr (i off : Nat) | pnil
  | ptrx (i base stride cnt : Nat) (e : E)
  | fn (f : FuncId) (caps : SV) | nilfn
  | map (i : Nat) | mapnil
  | slc (i off : Nat) (len cap : E) | snil
  | ifc (t : TypeId) (v : SV) | nilif
  | val (i : Nat)
  | str (l : List UInt8)
  | agg (l : SV) | tup (l : SV)
  | cond (g : E) (v : SV)
  | unk
  | nil | cons (a l : SV)
  deriving DecidableEq, Repr, Inhabited

def SV.toL : SV → List SV
  | .cons a l => a :: l.toL
  | _ => []
def SV.ofL : List SV → SV
  | [] => .nil
  | a :: l => .cons a (SV.ofL l)
@[simp] theorem SV.toL_ofL (l : List SV) : (SV.ofL l).toL = l := by induction l <;> simp_all [SV.ofL, SV.toL]

mutual
def SV.rel (ρ : Env) (β : List Nat) : SV → Value → Prop
  | .int k e, v => v = .int k (e.den ρ)
  | .bool e, v => v = .bool (e.denB ρ)
  | .ptr i off, v => ∃ b, β[i]? = some b ∧ v = .pointer (some ⟨b, off, none⟩)
  | .ptrx i base stride cnt e, v => ∃ b, β[i]? = some b ∧ 0 ≤ e.den ρ ∧ e.den ρ < cnt ∧ v = .pointer (some ⟨b, base + stride * (e.den ρ).toNat, none⟩)
  | .pnil, v => v = .pointer none
  | .fn f caps, v => ∃ vs, caps.relS ρ β vs ∧ v = .func (.func f) #[] vs.toArray
  | .nilfn, v => v = .nilFunc
  | .map i, v => ∃ b, β[i]? = some b ∧ v = .map (some b)
  | .mapnil, v => v = .map none
  | .slc i off len cap, v => ∃ b, β[i]? = some b ∧ ∃ n c : Nat, len.den ρ = n ∧ cap.den ρ = c ∧ v = .slice (some ⟨b, off, none⟩) n c
  | .snil, v => v = .slice none 0 0
  | .ifc t x, v => ∃ u, x.rel ρ β u ∧ v = .iface t u
  | .nilif, v => v = .nilIface
  | .val i, v => v = ρ.v i
  | .str l, v => v = .string ⟨l.toArray⟩
  | .agg l, v => ∃ vs, l.relS ρ β vs ∧ v = .agg vs.toArray
  | .tup l, v => ∃ vs, l.relS ρ β vs ∧ v = .tuple vs.toArray
  | .cond g x, v => (g.denB ρ = true → x.rel ρ β v) ∧ (g.denB ρ = false → v = undef)
  | .unk, _ => True
  | .nil, _ => False
  | .cons _ _, _ => False
def SV.relS (ρ : Env) (β : List Nat) : SV → List Value → Prop
  | .nil, vs => vs = []
  | .cons a l, vs => ∃ v r, vs = v :: r ∧ a.rel ρ β v ∧ l.relS ρ β r
  | .int .., _ | .bool .., _ | .ptr .., _ | .ptrx .., _ | .pnil, _ | .fn .., _ | .nilfn, _ | .map .., _ | .mapnil, _ | .slc .., _ | .snil, _ | .ifc .., _ | .nilif, _
  | .val .., _ | .str .., _ | .agg .., _ | .tup .., _ | .cond .., _ | .unk, _ => False
end

def RelL (ρ : Env) (β : List Nat) : List SV → List Value → Prop
  | [], vs => vs = []
  | a :: l, vs => ∃ v r, vs = v :: r ∧ a.rel ρ β v ∧ RelL ρ β l r

theorem relS_toL {ρ : Env} {β : List Nat} : ∀ {l : SV} {vs : List Value}, l.relS ρ β vs → RelL ρ β l.toL vs
  | .nil, vs, h => h
  | .cons a l, vs, h => by
    simp only [SV.relS] at h
    obtain ⟨v, r, rfl, ha, hl⟩ := h
    exact ⟨v, r, rfl, ha, relS_toL hl⟩
  | .int .., _, h | .bool .., _, h | .ptr .., _, h | .ptrx .., _, h | .pnil, _, h | .fn .., _, h | .nilfn, _, h | .map .., _, h | .mapnil, _, h | .slc .., _, h | .snil, _, h
  | .ifc .., _, h | .nilif, _, h | .val .., _, h | .str .., _, h | .agg .., _, h | .tup .., _, h | .cond .., _, h | .unk, _, h => by simp [SV.relS] at h

theorem relS_ofL {ρ : Env} {β : List Nat} : ∀ {l : List SV} {vs : List Value}, RelL ρ β l vs → (SV.ofL l).relS ρ β vs
  | [], vs, h => by simp only [SV.ofL, SV.relS]; exact h
  | a :: l, vs, h => by
    obtain ⟨v, r, rfl, ha, hl⟩ := h
    simp only [SV.ofL, SV.relS]
    exact ⟨v, r, rfl, ha, relS_ofL hl⟩

theorem RelL.length {ρ : Env} {β : List Nat} : ∀ {l : List SV} {vs : List Value}, RelL ρ β l vs → l.length = vs.length
  | [], vs, h => by simp [RelL] at h; simp [h]
  | a :: l, vs, h => by obtain ⟨v, r, rfl, _, hl⟩ := h; simp [hl.length]

theorem RelL.get {ρ : Env} {β : List Nat} : ∀ {l : List SV} {vs : List Value}, RelL ρ β l vs → ∀ {i : Nat} {s : SV}, l[i]? = some s → ∃ v, vs[i]? = some v ∧ s.rel ρ β v
  | [], vs, h, i, s, hi => by simp at hi
  | a :: l, vs, h, i, s, hi => by
    obtain ⟨v, r, rfl, ha, hl⟩ := h
    cases i with
    | zero => simp at hi; subst hi; exact ⟨v, by simp, ha⟩
    | succ i => simp at hi; obtain ⟨v', h1, h2⟩ := hl.get hi; exact ⟨v', by simpa using h1, h2⟩

theorem RelL.set {ρ : Env} {β : List Nat} {s : SV} {v : Value} (hv : s.rel ρ β v) : ∀ {l : List SV} {vs : List Value}, RelL ρ β l vs → ∀ (i : Nat), RelL ρ β (l.set i s) (vs.set i v)
  | [], vs, h, i => by simp [RelL] at h; subst h; simp [RelL]
  | a :: l, vs, h, i => by
    obtain ⟨x, r, rfl, ha, hl⟩ := h
    cases i with
    | zero => exact ⟨v, r, by simp, hv, hl⟩
    | succ i => exact ⟨x, r.set i v, by simp, ha, RelL.set hv hl i⟩

theorem RelL.append {ρ : Env} {β : List Nat} : ∀ {l l' : List SV} {vs vs' : List Value}, RelL ρ β l vs → RelL ρ β l' vs' → RelL ρ β (l ++ l') (vs ++ vs')
  | [], l', vs, vs', h, h' => by simp [RelL] at h; subst h; simpa using h'
  | a :: l, l', vs, vs', h, h' => by
    obtain ⟨x, r, rfl, ha, hl⟩ := h
    exact ⟨x, r ++ vs', by simp, ha, hl.append h'⟩

theorem RelL.drop {ρ : Env} {β : List Nat} : ∀ {l : List SV} {vs : List Value}, RelL ρ β l vs → ∀ n, RelL ρ β (l.drop n) (vs.drop n)
  | l, vs, h, 0 => by simpa using h
  | [], vs, h, n + 1 => by simp [RelL] at h; subst h; simp [RelL]
  | a :: l, vs, h, n + 1 => by obtain ⟨x, r, rfl, ha, hl⟩ := h; simpa using hl.drop n

theorem RelL.take {ρ : Env} {β : List Nat} : ∀ {l : List SV} {vs : List Value}, RelL ρ β l vs → ∀ n, RelL ρ β (l.take n) (vs.take n)
  | l, vs, h, 0 => by simp [RelL]
  | [], vs, h, n + 1 => by simp [RelL] at h; subst h; simp [RelL]
  | a :: l, vs, h, n + 1 => by obtain ⟨x, r, rfl, ha, hl⟩ := h; exact ⟨x, r.take n, by simp, ha, hl.take n⟩

theorem RelL.replicate {ρ : Env} {β : List Nat} {s : SV} {v : Value} (h : s.rel ρ β v) : ∀ n, RelL ρ β (List.replicate n s) (List.replicate n v)
  | 0 => rfl
  | n + 1 => ⟨v, List.replicate n v, rfl, h, RelL.replicate h n⟩

/- More blocks are known: what was known stays. -/
theorem pre_get {β β' : List Nat} (h : β <+: β') {i b : Nat} (hi : β[i]? = some b) : β'[i]? = some b := by
  obtain ⟨t, rfl⟩ := h
  rw [List.getElem?_append_left]
  · exact hi
  · rw [List.getElem?_eq_some_iff] at hi; exact hi.1

theorem mono_both {ρ : Env} {β β' : List Nat} (hb : β <+: β') (s : SV) : (∀ v, s.rel ρ β v → s.rel ρ β' v) ∧ (∀ vs, s.relS ρ β vs → s.relS ρ β' vs) := by
  induction s with
  | int k e => simp [SV.rel, SV.relS]
  | bool e => simp [SV.rel, SV.relS]
  | ptr i off => refine ⟨fun v h => ?_, by simp [SV.relS]⟩; simp only [SV.rel] at *; obtain ⟨b, h1, h2⟩ := h; exact ⟨b, pre_get hb h1, h2⟩
  | ptrx i base stride cnt e => refine ⟨fun v h => ?_, by simp [SV.relS]⟩; simp only [SV.rel] at *; obtain ⟨b, h1, h2⟩ := h; exact ⟨b, pre_get hb h1, h2⟩
  | pnil => simp [SV.rel, SV.relS]
  | fn f caps ih => refine ⟨fun v h => ?_, by simp [SV.relS]⟩; simp only [SV.rel] at *; obtain ⟨b, h1, h2⟩ := h; exact ⟨b, ih.2 _ h1, h2⟩
  | nilfn => simp [SV.rel, SV.relS]
  | map i => refine ⟨fun v h => ?_, by simp [SV.relS]⟩; simp only [SV.rel] at *; obtain ⟨b, h1, h2⟩ := h; exact ⟨b, pre_get hb h1, h2⟩
  | mapnil => simp [SV.rel, SV.relS]
  | slc i off len cap => refine ⟨fun v h => ?_, by simp [SV.relS]⟩; simp only [SV.rel] at *; obtain ⟨b, h1, h2⟩ := h; exact ⟨b, pre_get hb h1, h2⟩
  | snil => simp [SV.rel, SV.relS]
  | ifc t x ih => refine ⟨fun v h => ?_, by simp [SV.relS]⟩; simp only [SV.rel] at *; obtain ⟨u, h1, h2⟩ := h; exact ⟨u, ih.1 _ h1, h2⟩
  | nilif => simp [SV.rel, SV.relS]
  | val i => simp [SV.rel, SV.relS]
  | str l => simp [SV.rel, SV.relS]
  | agg l ih => refine ⟨fun v h => ?_, by simp [SV.relS]⟩; simp only [SV.rel] at *; obtain ⟨b, h1, h2⟩ := h; exact ⟨b, ih.2 _ h1, h2⟩
  | tup l ih => refine ⟨fun v h => ?_, by simp [SV.relS]⟩; simp only [SV.rel] at *; obtain ⟨b, h1, h2⟩ := h; exact ⟨b, ih.2 _ h1, h2⟩
  | cond g x ih => refine ⟨fun v h => ?_, by simp [SV.relS]⟩; simp only [SV.rel] at *; exact ⟨fun hg => ih.1 _ (h.1 hg), h.2⟩
  | unk => simp [SV.rel, SV.relS]
  | nil => simp [SV.rel, SV.relS]
  | cons a l iha ihl =>
    refine ⟨by simp [SV.rel], fun vs h => ?_⟩
    simp only [SV.relS] at *
    obtain ⟨v, r, rfl, h1, h2⟩ := h
    exact ⟨v, r, rfl, iha.1 _ h1, ihl.2 _ h2⟩

theorem SV.rel.mono {ρ : Env} {β β' : List Nat} (hb : β <+: β') {s : SV} {v : Value} (h : s.rel ρ β v) : s.rel ρ β' v := (mono_both hb s).1 v h
theorem RelL.mono {ρ : Env} {β β' : List Nat} (hb : β <+: β') : ∀ {l : List SV} {vs : List Value}, RelL ρ β l vs → RelL ρ β' l vs
  | [], vs, h => h
  | a :: l, vs, h => by obtain ⟨v, r, rfl, h1, h2⟩ := h; exact ⟨v, r, rfl, h1.mono hb, h2.mono hb⟩

/-- A constant of the text. -/
def ofConst : Value → SV
  | .int k n => .int k (.lit n)
  | .bool b => .bool (.ofB b)
  | .pointer none => .pnil
  | .nilFunc => .nilfn
  | .nilIface => .nilif
  | .map none => .mapnil
  | .slice none 0 0 => .snil
  | .string s => .str s.data.toList
  | _ => .unk
theorem ofConst_rel (ρ : Env) (β : List Nat) (v : Value) : (ofConst v).rel ρ β v := by
  unfold ofConst; split <;> simp [SV.rel, E.den]
def ofConsts : List Value → List SV
  | [] => []
  | v :: l => ofConst v :: ofConsts l
theorem ofConsts_rel (ρ : Env) (β : List Nat) : ∀ l, RelL ρ β (ofConsts l) l
  | [] => rfl
  | v :: l => ⟨v, l, rfl, ofConst_rel ρ β v, ofConsts_rel ρ β l⟩
/-- A type's zero value. -/
def ofZero : Value → SV
  | .agg cs => .agg (.ofL (ofConsts cs.toList))
  | v => ofConst v
theorem ofZero_rel (ρ : Env) (β : List Nat) (v : Value) : (ofZero v).rel ρ β v := by
  unfold ofZero; split
  · rename_i cs; simp only [SV.rel]; exact ⟨cs.toList, relS_ofL (ofConsts_rel ρ β _), by simp⟩
  · exact ofConst_rel ρ β v
end Go.Sx
