/- Code, run on what is known in part: a tree of ways. -/
import Derived.Test.YtpamdmikdnoplaaSxG
namespace Go.Sx
set_option linter.unusedVariables false

inductive Tree (α : Type)
  | leaf (a : α)
  | ite (e : E) (t f : Tree α)
  | need (e : E) (t : Tree α)
  | also (t u : Tree α)
  | ok
  | bad (msg : String)
  deriving DecidableEq, Repr, Inhabited

namespace Tree
variable {α γ : Type}
def Sat (ρ : Env) (L : α → Prop) : Tree α → Prop
  | .leaf a => L a
  | .ite e t f => (e.denB ρ = true → t.Sat ρ L) ∧ (e.denB ρ = false → f.Sat ρ L)
  | .need e t => e.denB ρ = true ∧ t.Sat ρ L
  | .also t u => t.Sat ρ L ∧ u.Sat ρ L
  | .ok => True
  | .bad _ => False
def bind : Tree α → (α → Tree γ) → Tree γ
  | .leaf a, f => f a
  | .ite e t u, f => .ite e (t.bind f) (u.bind f)
  | .need e t, f => .need e (t.bind f)
  | .also t u, f => .also (t.bind f) (u.bind f)
  | .ok, _ => .ok
  | .bad m, _ => .bad m
theorem sat_bind {ρ : Env} {L : γ → Prop} {f : α → Tree γ} : ∀ {t : Tree α}, (t.bind f).Sat ρ L → t.Sat ρ (fun a => (f a).Sat ρ L)
  | .leaf _, h => h
  | .ite _ _ _, h => ⟨fun he => sat_bind (h.1 he), fun he => sat_bind (h.2 he)⟩
  | .need _ _, h => ⟨h.1, sat_bind h.2⟩
  | .also _ _, h => ⟨sat_bind h.1, sat_bind h.2⟩
  | .ok, h => trivial
  | .bad _, h => h
theorem Sat.mono {ρ : Env} {L L' : α → Prop} (hl : ∀ a, L a → L' a) : ∀ {t : Tree α}, t.Sat ρ L → t.Sat ρ L'
  | .leaf a, h => hl a h
  | .ite _ _ _, h => ⟨fun he => Sat.mono hl (h.1 he), fun he => Sat.mono hl (h.2 he)⟩
  | .need _ _, h => ⟨h.1, Sat.mono hl h.2⟩
  | .also _ _, h => ⟨Sat.mono hl h.1, Sat.mono hl h.2⟩
  | .ok, h => trivial
  | .bad _, h => h
/-- needs, one behind the other -/
def needs : List E → Tree α → Tree α
  | [], t => t
  | e :: l, t => .need e (needs l t)
theorem sat_needs {ρ : Env} {L : α → Prop} {t : Tree α} : ∀ {l : List E}, (needs l t).Sat ρ L → (∀ e ∈ l, e.denB ρ = true) ∧ t.Sat ρ L
  | [], h => ⟨by simp, h⟩
  | e :: l, h => by
    obtain ⟨h1, h2⟩ := sat_needs h.2
    exact ⟨fun x hx => by rcases List.mem_cons.1 hx with rfl | hx; exact h.1; exact h1 x hx, h2⟩
end Tree

inductive X
  | normal | exit (id : Nat) | goto (l : Nat) | ret | panic (s : SV)
  deriving DecidableEq, Repr, Inhabited
inductive Out
  | ret (s : SV) | pan (s : SV)
  deriving DecidableEq, Repr, Inhabited
abbrev CallK := FuncId → List SV → List SO → List E → Tree (Out × List SO × List E)

def St.put (st : St) (dst : Option Tmp) (s : SV) : St :=
  match dst with
  | some d => match st with
    | { tmps, nt, defers, heap, path } => { tmps := tmps.set d s, nt, defers, heap, path }
  | none => st

def guardE (ops : Array Oper) (st : St) (j : Nat) (want : Bool) : Option E :=
  match (ops[j]?).bind (·.dst) with
  | some d => match Nat.blt d st.nt with
    | true => match st.tmps.get d with
      | .bool e => some (if want then e else .mkNot e)
      | .cond g (.bool e) => some (.mkAnd g (if want then e else .mkNot e))
      | .tup _ => some ff
      | _ => none
    | false => none
  | none => some ff

/-- An operation that turns no memory. -/
def evRead (P : Program) (st : St) (path : List E) (op : Op) : Option (List E × SV) :=
  match evPure P path st.ev op with
  | some r => some r
  | none => match op with
    | .load t x => (loadS P t st.heap (stripC path (st.ev x))).map fun s => ([], s)
    | _ => none

def runOp0 (P : Program) (K : CallK) (o : Oper) (st : St) : Tree (X × St) :=
  match evPure P st.path st.ev o.op with
  | some (ns, s) => .needs (ns.filter fun n => decideE st.path n != some true) (.leaf (.normal, st.put o.dst s))
  | none => match evMem P st o.op with
    | .val s h => .leaf (.normal, ({ st with heap := h } : St).put o.dst s)
    | .skip h => .leaf (.normal, ({ st with heap := h } : St).put o.dst (.tup .nil))
    | .call f args => (K f args st.heap st.path).bind fun (out, h, p) => match out with
      | .ret v => .leaf (.normal, ({ st with heap := h, path := p } : St).put o.dst v)
      | .pan v => .leaf (.panic v, { st with heap := h, path := p })
    | .defr f a c => .leaf (.normal, ({ st with defers := (f, a, c) :: st.defers } : St).put o.dst (.tup .nil))
    | .panic s => .leaf (.panic s, st)
    | .bad m => .bad (m ++ " " ++ o.pos)

def keysS : List (SV × SV) → Option (List Int)
  | [] => some []
  | (.int _ (.lit n), _) :: l => (keysS l).map (n :: ·)
  | _ => none
/-- A place that is known in part, where what stands there is no number, or one of a map: each in turn. -/
def splitOn (P : Program) (st : St) (op : Op) : Option (E × List Int) :=
  match op with
  | .index t _ ix => match P.underlying t, st.ev ix with
    | some (.array len _), .int _ e => match valE st.path e, evPure P st.path st.ev op with
      | none, none => if len ≤ 32 then some (e, (List.range len).map Int.ofNat) else none
      | _, _ => none
    | _, _ => none
  | .lookup _ m k _ => match stripC st.path (st.ev m), stripC st.path (st.ev k) with
    | .map i, .int _ e => match valE st.path e, st.heap[i]? with
      | none, some (.map l) => match keysS l with
        | some (k :: ks) => some (e, k :: ks)
        | _ => none
      | _, _ => none
    | _, _ => none
  | _ => none
def splitT {α : Type} (e : E) (st : St) (f : St → Tree α) : List Int → Tree α
  | [] => .bad "place"
  | k :: ks => .ite (.eq e (.lit k)) (f { st with path := assumeT (.eq e (.lit k)) st.path }) (splitT e st f ks)
def runOp (P : Program) (K : CallK) (o : Oper) (st : St) : Tree (X × St) :=
  match splitOn P st o.op with
  | some (e, l) => splitT e st (runOp0 P K o) l
  | none => runOp0 P K o st

def stepOp (P : Program) (K : CallK) (ops : Array Oper) (o : Oper) (st : St) : Tree (X × St) :=
  match o.guard with
  | none => runOp P K o st
  | some (j, want) => match guardE ops st j want with
    | none => .bad "guard"
    | some g => match decideE st.path g with
      | some true => runOp P K o st
      | some false => .leaf (.normal, st.put o.dst (.tup .nil))
      | none => match evRead P st (assumeT g st.path) o.op with
        | some (ns, s) => .needs ((ns.filter fun n => decideE (assumeT g st.path) n != some true).map fun n => .ite g n tt) (.leaf (.normal, st.put o.dst (.cond g s)))
        | none => .ite g (runOp P K o { st with path := assumeT g st.path }) (.leaf (.normal, ({ st with path := assumeF g st.path } : St).put o.dst (.tup .nil)))

def evOps (P : Program) (K : CallK) (ops : Array Oper) : List Nat → St → Tree (X × St)
  | [], st => .leaf (.normal, st)
  | i :: rest, st => match ops[i]? with
    | none => evOps P K ops rest st
    | some o => (stepOp P K ops o st).bind fun (x, st') => match x with
      | .normal => evOps P K ops rest st'
      | x => .leaf (x, st')

def hitsS (S : List Tmp) : Option Tmp → Bool
  | some d => S.contains d
  | none => false
/- What is still led to, in the order in which it is met; the rest is forgotten. -/
def SV.refs : SV → List Nat
  | .ptr i _ => [i] | .ptrx i _ _ _ _ => [i] | .map i => [i] | .slc i _ _ _ => [i]
  | .fn _ c => c.refs | .ifc _ v => v.refs | .agg l => l.refs | .tup l => l.refs
  | .cond _ v => v.refs | .cons a l => a.refs ++ l.refs
  | _ => []
def SV.ren (f : Nat → Option Nat) : SV → Option SV
  | .ptr i o => (f i).map fun j => .ptr j o
  | .ptrx i b s c e => (f i).map fun j => .ptrx j b s c e
  | .map i => (f i).map .map
  | .slc i o n c => (f i).map fun j => .slc j o n c
  | .fn g c => (c.ren f).map (.fn g)
  | .ifc t v => (v.ren f).map (.ifc t)
  | .agg l => (l.ren f).map .agg
  | .tup l => (l.ren f).map .tup
  | .cond g v => (v.ren f).map (.cond g)
  | .cons a l => match a.ren f, l.ren f with
    | some a', some l' => some (.cons a' l')
    | _, _ => none
  | .int k e => some (.int k e) | .bool e => some (.bool e) | .pnil => some .pnil | .nilfn => some .nilfn | .mapnil => some .mapnil | .snil => some .snil
  | .nilif => some .nilif | .val i => some (.val i) | .str l => some (.str l) | .unk => some .unk | .nil => some .nil
def renL (f : Nat → Option Nat) : List SV → Option (List SV)
  | [] => some []
  | a :: l => match a.ren f, renL f l with
    | some a', some l' => some (a' :: l')
    | _, _ => none
def renM (f : Nat → Option Nat) : List (SV × SV) → Option (List (SV × SV))
  | [] => some []
  | (k, v) :: l => match k.ren f, v.ren f, renM f l with
    | some k', some v', some l' => some ((k', v') :: l')
    | _, _, _ => none
def SO.ren (f : Nat → Option Nat) : SO → Option SO
  | .cells ro l t => (renL f l).map fun l' => .cells ro l' t
  | .map l => (renM f l).map .map
  | .any => some .any
def SO.refs : SO → List Nat
  | .cells _ l _ => l.flatMap SV.refs
  | .map l => l.flatMap fun (k, v) => k.refs ++ v.refs
  | .any => []
def closeS (n0 : Nat) (h : List SO) : Nat → List Nat → List Nat → List Nat
  | 0, acc, _ => acc
  | _ + 1, acc, [] => acc
  | n + 1, acc, i :: work => if i < n0 || acc.contains i then closeS n0 h n acc work else closeS n0 h n (acc ++ [i]) (work ++ ((h[i]?).map SO.refs).getD [])
def indexIn (i : Nat) : List Nat → Option Nat
  | [] => none
  | j :: l => if i = j then some 0 else (indexIn i l).map (· + 1)
def nodupB : List Nat → Bool
  | [] => true
  | i :: l => !l.contains i && nodupB l
def renH (f : Nat → Option Nat) (h : List SO) : List Nat → Option (List SO)
  | [] => some []
  | i :: l => match (h[i]?).bind (SO.ren f), renH f h l with
    | some o, some r => some (o :: r)
    | _, _ => none
/-- Of a heap, what is kept: how it is numbered, the heap. -/
def selectS (n0 : Nat) (roots : List Nat) (h : List SO) : Option (List Nat × List SO) :=
  let sel := List.range n0 ++ closeS n0 h 400 [] (roots ++ (h.take n0).flatMap SO.refs)
  if nodupB sel then (renH (indexIn · sel) h sel).map fun h' => (sel, h') else none
def renD (f : Nat → Option Nat) : List (FuncId × List SV × List SV) → Option (List (FuncId × List SV × List SV))
  | [] => some []
  | (g, a, c) :: l => match renL f a, renL f c, renD f l with
    | some a', some c', some l' => some ((g, a', c') :: l')
    | _, _, _ => none
def renT (f : Nat → Option Nat) (t : TT) : TT := t.map fun s => (s.ren f).getD .unk
/-- Of the temporaries those that are named. -/
def keepT (n : Nat) (t : TT) : List Tmp → TT
  | [] => .full .unk (Nat.log2 n + 1)
  | d :: S => (keepT n t S).set d (t.get d)
def tidy (S : List Tmp) (n0 : Nat) : X × St → X × St
  | (x, s) =>
    let dr := s.defers.flatMap fun (_, a, c) => a.flatMap SV.refs ++ c.flatMap SV.refs
    match x with
    | .panic v => match selectS n0 (v.refs ++ dr ++ (keepT s.nt s.tmps S).flat SV.refs) s.heap with
      | some (sel, h) => match v.ren (indexIn · sel), renD (indexIn · sel) s.defers with
        | some v', some d => (.panic v', { tmps := renT (indexIn · sel) (keepT s.nt s.tmps S), nt := s.nt, defers := d, heap := h, path := s.path })
        | _, _ => (x, s)
      | none => (x, s)
    | x => match selectS n0 (s.tmps.flat SV.refs ++ dr) s.heap with
      | some (sel, h) => match renD (indexIn · sel) s.defers with
        | some d => (x, { tmps := renT (indexIn · sel) s.tmps, nt := s.nt, defers := d, heap := h, path := s.path })
        | none => (x, s)
      | none => (x, s)
def tidyT (S : List Tmp) (n0 : Nat) (t : Tree (X × St)) : Tree (X × St) := t.bind fun xs => .leaf (tidy S n0 xs)
/-- A tree taken off its needs. -/
def Tree.unneed {α : Type} : Tree α → List E × Tree α
  | .need e t => (e :: t.unneed.1, t.unneed.2)
  | t => ([], t)
def sameT (t u : Tree (X × St)) : Bool := decide (t.unneed.2 = u.unneed.2) && u.unneed.1.all fun e => t.unneed.1.contains e
/-- All orders come to the same. -/
def mergeT : List (Tree (X × St)) → Tree (X × St)
  | [] => .bad "orders: none"
  | t :: l => if l.all (sameT t) then t else .bad "orders"

/-- What is so and cannot be otherwise. -/
def SV.exact : SV → Bool
  | .unk | .cond .. => false
  | .fn _ c => c.exact
  | .ifc _ v => v.exact
  | .agg l => l.exact
  | .tup l => l.exact
  | .cons a l => a.exact && l.exact
  | _ => true
def exactL : List SV → Bool
  | [] => true
  | a :: l => a.exact && exactL l
/-- What has been looked at ahead of its turn: by which operation, where, what stood there. -/
structure HE where
  g : E
  i : Nat
  blk : Nat
  off : Nat
  l : List SV
abbrev Held := List HE
def loadR (P : Program) (t : TypeId) (h : List SO) (R : Held) (g : E) (j : Nat) (x : SV) : Option (SV × Held) :=
  match x with
  | .ptr i off => match h[i]? with
    | some (.cells _ l _) => match Nat.ble (off + P.cellsOf t) l.length && Nat.ble 1 (P.cellsOf t) && exactL ((l.drop off).take (P.cellsOf t)) with
      | true => (partS P t l off).map fun s => (s, { g, i := j, blk := i, off, l := (l.drop off).take (P.cellsOf t) } :: R)
      | false => none
    | _ => none
  | .ptrx i base stride cnt e => match h[i]? with
    | some (.cells _ l _) => match Nat.ble 1 cnt && Nat.ble (base + (stride * (cnt - 1) + P.cellsOf t)) l.length && exactL ((l.drop base).take (stride * (cnt - 1) + P.cellsOf t)) with
      | true => (loadX P t l base stride cnt e).map fun s => (s, { g, i := j, blk := i, off := base, l := (l.drop base).take (stride * (cnt - 1) + P.cellsOf t) } :: R)
      | false => none
    | _ => none
  | _ => none
def evHeld (P : Program) (st : St) (path : List E) (R : Held) (gd : E) (j : Nat) (op : Op) : Option (List E × SV × Held) :=
  match op with
  | .load t x => (loadR P t st.heap R gd j (stripC path (st.ev x))).map fun (s, R') => ([], s, R')
  | op => (evPure P path st.ev op).map fun (ns, s) => (ns, s, R)
/-- Taken first: it looks at no memory but such as stays, and whatever else may come is apart. -/
def heldStep (P : Program) (ops : Array Oper) (i : Nat) (o : Oper) (R : Held) (st : St) : Option (List E × SV × Held) :=
  match o.guard with
  | none => (evHeld P st st.path R tt i o.op).map fun (ns, s, R') => (ns.filter fun n => decideE st.path n != some true, s, R')
  | some (j, want) => match guardE ops st j want with
    | none => none
    | some g => match decideE st.path g with
      | some true => (evHeld P st st.path R tt i o.op).map fun (ns, s, R') => (ns.filter fun n => decideE st.path n != some true, s, R')
      | some false => some ([], .tup .nil, R)
      | none => (evHeld P st (assumeT g st.path) R g i o.op).map fun (ns, s, R') => ((ns.filter fun n => decideE (assumeT g st.path) n != some true).map fun n => .ite g n tt, .cond g s, R')
/-- An operation of a region; for whom it waits, who must come ahead of it, as masks. -/
structure RI where
  i : Nat
  o : Oper
  deps : Nat
  block : Nat
  tdeps : Nat
def depsM : List Edge → Nat
  | [] => 0
  | e :: l => match Region.binds .any e with
    | true => Nat.lor (Nat.pow 2 e.on) (depsM l)
    | false => depsM l
def blockM (ops : Array Oper) (i : Nat) (oi : Oper) : Nat → List Oper → Nat
  | _, [] => 0
  | j, oj :: l => match Nat.beq j i || oj.after.any (fun e => Region.binds .any e && Nat.beq e.on i) || oi.apart ops oj with
    | true => blockM ops i oi (j + 1) l
    | false => Nat.lor (Nat.pow 2 j) (blockM ops i oi (j + 1) l)
def lookM (i : Nat) : List (Nat × Nat) → Nat
  | [] => 0
  | (j, m) :: l => match Nat.beq i j with
    | true => m
    | false => lookM i l
/-- For whom it waits, and for whom these wait. -/
def tdepsM (prev : List (Nat × Nat)) : List Edge → Nat
  | [] => 0
  | e :: l => match Region.binds .any e with
    | true => Nat.lor (Nat.lor (Nat.pow 2 e.on) (lookM e.on prev)) (tdepsM prev l)
    | false => tdepsM prev l
def statics (ops : Array Oper) (prev : List (Nat × Nat)) (i : Nat) : List Oper → List RI
  | [] => []
  | o :: l => { i, o, deps := depsM o.after.toList, block := blockM ops i o 0 ops.toList, tdeps := tdepsM prev o.after.toList } :: statics ops ((i, tdepsM prev o.after.toList) :: prev) (i + 1) l
def inM (m mask : Nat) : Bool := Nat.beq (Nat.land m mask) m
/-- Once through those that wait; each that may be taken is. -/
def pass (P : Program) (S : List Tmp) (ops : Array Oper) (k : List RI → Nat → Held → St → Tree (X × St)) : List RI → List RI → Nat → Held → St → Tree (X × St)
  | [], kept, mask, R, st => k kept.reverse mask R st
  | r :: l, kept, mask, R, st => match inM r.deps mask && inM r.block mask && !hitsS S r.o.dst with
    | true => match heldStep P ops r.i r.o R st with
      | some (ns, s, R') => .needs ns (pass P S ops k l kept (Nat.lor mask (Nat.pow 2 r.i)) R' (st.put r.o.dst s))
      | none => pass P S ops k l (r :: kept) mask R st
    | false => pass P S ops k l (r :: kept) mask R st
def stays (m : Nat) (h : List SO) : Held → Bool
  | [] => true
  | x :: R => (inM (Nat.pow 2 x.i) m || (match h[x.blk]? with
    | some (.cells _ l _) => decide ((l.drop x.off).take x.l.length = x.l)
    | _ => false)) && stays m h R
def readyR (mask : Nat) : List RI → List RI
  | [] => []
  | r :: l => match inM r.deps mask with
    | true => r :: readyR mask l
    | false => readyR mask l
def without (i : Nat) : List RI → List RI
  | [] => []
  | r :: l => match Nat.beq r.i i with
    | true => without i l
    | false => r :: without i l
/-- A new variable that nobody waits for but such as say so: it may come at any time. -/
def allocR (P : Program) (S : List Tmp) (r : RI) : Bool :=
  match r.o.op, r.o.guard with
  | .alloc elem, none => Nat.beq r.block 0 && !hitsS S r.o.dst && ((zeroS P elem).bind scells).isSome
  | _, _ => false
def othersR (P : Program) (S : List Tmp) : List RI → List RI
  | [] => []
  | r :: l => match allocR P S r with
    | true => othersR P S l
    | false => r :: othersR P S l
def maskR : List RI → Nat
  | [] => 0
  | r :: l => Nat.lor (Nat.pow 2 r.i) (maskR l)
/-- Whoever waits for one of these waits for j. -/
def behindB (j : Nat) (mask m : Nat) : List RI → Bool
  | [] => true
  | k :: l => (inM k.deps mask || Nat.beq (Nat.land k.deps m) 0 || inM (Nat.pow 2 j) k.tdeps) && behindB j mask m l
def choose (P : Program) (S : List Tmp) (mask : Nat) (kept rs : List RI) : Option RI :=
  match othersR P S rs with
  | [] => match rs with
    | [] => none
    | r :: l => if behindB r.i mask (maskR l) kept then some r else none
  | [r] => if behindB r.i mask (maskR (without r.i rs)) kept then some r else none
  | _ => none
/-- A region whose order is open. -/
def evR (P : Program) (K : CallK) (S : List Tmp) (n0 : Nat) (ops : Array Oper) : Nat → List RI → Nat → Held → St → Tree (X × St)
  | 0, _, _, _, _ => .bad "region"
  | n + 1, pend, mask, R, st => pass P S ops (fun kept mask R st =>
    let step := fun (r : RI) => (stepOp P K ops r.o st).bind fun (x, st') => match x with
      | .normal => match stays r.tdeps st'.heap R with
        | true => evR P K S n0 ops n (without r.i kept) (Nat.lor mask (Nat.pow 2 r.i)) R st'
        | false => .bad "held"
      | x => .leaf (x, st')
    match kept with
    | [] => .leaf (.normal, st)
    | _ :: _ => match readyR mask kept with
      | [] => .bad "stuck"
      | [r] => step r
      | rs => match choose P S mask kept rs with
        | some r => step r
        | none => mergeT (rs.map fun r => tidyT S n0 (step r))) pend [] mask R st

/-- Of the first n0 blocks alone. -/
def SV.low (n0 : Nat) : SV → Bool
  | .ptr i _ => Nat.blt i n0 | .ptrx i _ _ _ _ => Nat.blt i n0 | .map i => Nat.blt i n0 | .slc i _ _ _ => Nat.blt i n0
  | .fn _ c => c.low n0 | .ifc _ v => v.low n0 | .agg l => l.low n0 | .tup l => l.low n0
  | .cond _ v => v.low n0 | .cons a l => a.low n0 && l.low n0
  | _ => true
def lowL (n0 : Nat) : List SV → Bool
  | [] => true
  | a :: l => a.low n0 && lowL n0 l
def lowM (n0 : Nat) : List (SV × SV) → Bool
  | [] => true
  | (k, v) :: l => k.low n0 && v.low n0 && lowM n0 l
def lowH (n0 : Nat) : Nat → List SO → Bool
  | 0, _ => true
  | _ + 1, [] => true
  | n + 1, o :: h => (match o with
    | .cells _ l _ => lowL n0 l
    | .map l => lowM n0 l
    | .any => true) && lowH n0 n h
/-- All leaves by which it goes on; the tree without them. -/
def Tree.normals : Tree (X × St) → List St
  | .leaf (.normal, st) => [st]
  | .leaf _ => []
  | .ite _ t f => t.normals ++ f.normals
  | .need _ t => t.normals
  | .also t u => t.normals ++ u.normals
  | .ok => []
  | .bad _ => []
def Tree.kill : Tree (X × St) → Tree (X × St)
  | .leaf (.normal, _) => .ok
  | .leaf x => .leaf x
  | .ite e t f => .ite e t.kill f.kill
  | .need e t => .need e t.kill
  | .also t u => .also t.kill u.kill
  | .ok => .ok
  | .bad m => .bad m
/- What two have in common; by a condition, one of both. -/
def pickJ (g : Option E) (x y : SV) : SV :=
  match g with
  | none => .unk
  | some e => match x, y with
    | .bool a, .bool b => .bool (.mkIteB e a b)
    | .int k a, .int k' b => if k = k' then .int k (.mkIte e a b) else .unk
    | _, _ => .unk
mutual
def joinV (g : Option E) : SV → SV → SV
  | .agg l, y => match y with
    | .agg l' => match joinS g l l' with
      | some r => .agg r
      | none => .unk
    | _ => .unk
  | .tup l, y => match y with
    | .tup l' => match joinS g l l' with
      | some r => .tup r
      | none => .unk
    | _ => .unk
  | .cons .., _ => .unk
  | .nil, _ => .unk
  | x, y => if x = y then y else pickJ g x y
def joinS (g : Option E) : SV → SV → Option SV
  | .nil, y => match y with
    | .nil => some .nil
    | _ => none
  | .cons a l, y => match y with
    | .cons a' l' => match joinS g l l' with
      | some r => some (.cons (joinV g a a') r)
      | none => none
    | _ => none
  | _, _ => none
end
def joinL (g : Option E) : List SV → List SV → Option (List SV)
  | [], [] => some []
  | a :: l, b :: m => (joinL g l m).map (joinV g a b :: ·)
  | _, _ => none
def joinT (g : Option E) : TT → TT → TT
  | .node l v r, .node l' v' r' => .node (joinT g l l') (joinV g v v') (joinT g r r')
  | _, _ => .nil
def joinH (g : Option E) : List SO → List SO → Option (List SO)
  | [], [] => some []
  | .cells ro l t :: h, .cells ro' l' t' :: h' => if ro = ro' ∧ t = t' then match joinL g l l', joinH g h h' with
      | some r, some k => some (.cells ro r t :: k)
      | _, _ => none
    else none
  | o :: h, o' :: h' => if o = o' then (joinH g h h').map (o :: ·) else none
  | _, _ => none
/-- Without the blocks behind the first n0. -/
def trim (n0 : Nat) (p : List E) (s : St) : Option St :=
  match lowH n0 n0 s.heap && s.defers.isEmpty with
  | true => some { tmps := s.tmps.map fun v => if v.low n0 then v else .unk, nt := s.nt, defers := [], heap := s.heap.take n0, path := p }
  | false => none
def joinSt (g : Option E) (s s' : St) : Option St :=
  if s.nt = s'.nt ∧ s.defers.isEmpty = true ∧ s'.defers.isEmpty = true then (joinH g s.heap s'.heap).map fun h => { tmps := joinT g s.tmps s'.tmps, nt := s.nt, defers := [], heap := h, path := s.path } else none
def joinO (g : Option E) : Option (Option St) → Option (Option St) → Option (Option St)
  | some none, r => r
  | some (some a), some none => some (some a)
  | some (some a), some (some b) => (joinSt g a b).map some
  | _, _ => none
/-- All leaves by which it goes on, in one: by conditions, or what they have in common. -/
def joinTr (c : Bool) (n0 : Nat) (p : List E) : Tree (X × St) → Option (Option St)
  | .leaf (.normal, st) => (trim n0 p st).map some
  | .leaf _ => some none
  | .ite e t f => joinO (if c then some e else none) (joinTr c n0 p t) (joinTr c n0 p f)
  | .need _ t => joinTr c n0 p t
  | .also t u => joinO none (joinTr c n0 p t) (joinTr c n0 p u)
  | .ok => some none
  | .bad _ => some none
/-- Several leaves by which it goes on: what they have in common goes on. -/
def meet (t : Tree (X × St)) (n0 : Nat) (p : List E) : Option (Tree (X × St) × St) :=
  match t.normals with
  | _ :: _ :: l => match joinTr (decide (l.length ≤ 4)) n0 p t with
    | some (some s) => some (t.kill, s)
    | _ => none
  | _ => none
def evLoop (body : St → Tree (X × St)) : Nat → St → Tree (X × St)
  | 0, _ => .bad "loop"
  | n + 1, st => match meet (body st) st.heap.length st.path with
    | some (t, s) => .also t (evLoop body n s)
    | none => (body st).bind fun (x, st') => match x with
      | .normal => evLoop body n st'
      | x => .leaf (x, st')

def labC : Code → Option Nat
  | .label l => some l
  | .seq a b => match labC a with
    | some l => some l
    | none => labC b
  | _ => none
mutual
def evCode (P : Program) (K : CallK) (S : List Tmp) (N : Nat) : Code → St → Tree (X × St)
  | .skip, st => .leaf (.normal, st)
  | .label _, st => .leaf (.normal, st)
  | .region _ ops draw, st =>
    if draw then
      if P.follows .mixedOrders && Region.noSelect ops then evR P K S st.heap.length ops (ops.size + 1) (statics ops [] 0 ops.toList) 0 [] st else .bad "draw"
    else evOps P K ops (List.range ops.size) st
  | .seq a b, st => (evCode P K S N a st).bind fun (x, st') => match x with
    | .normal => evCode P K S N b st'
    | x => .leaf (x, st')
  | .cond c a b, st => match stripC st.path (st.ev c) with
    | .bool e => match decideE st.path e with
      | some true => evCode P K S N a st
      | some false => evCode P K S N b st
      | none => .ite e (evCode P K S N a { st with path := assumeT e st.path }) (evCode P K S N b { st with path := assumeF e st.path })
    | _ => .bad "cond"
  | .block id c, st => (evCode P K S N c st).bind fun (x, st') => if x = .exit id then .leaf (.normal, st') else .leaf (x, st')
  | .loop c, st => evLoop (evCode P K S N c) N st
  | .exit id, st => .leaf (.exit id, st)
  | .ret, st => .leaf (.ret, st)
  | .goto l, st => .leaf (.goto l, st)
  | .scope c, st => (evCode P K S N c st).bind fun (x, st') => match x with
    | .goto l => if labC c = some l then (evFrom P K S N l c st').bind fun (y, st'') => match y with
        | .goto _ => .bad "goto again"
        | y => .leaf (y, st'')
      else .bad "goto"
    | x => .leaf (x, st')
  | .rangeFunc .., _ => .bad "rangeFunc"
  | .refuse _, _ => .bad "refuse"
/-- From a label on. -/
def evFrom (P : Program) (K : CallK) (S : List Tmp) (N : Nat) (l : Nat) : Code → St → Tree (X × St)
  | .seq a b, st => if (findLabel a l).isSome then (evFrom P K S N l a st).bind fun (x, st') => match x with
      | .normal => evCode P K S N b st'
      | x => .leaf (x, st')
    else evFrom P K S N l b st
  | .label l', st => if l' == l then .leaf (.normal, st) else .bad "label"
  | _, _ => .bad "label"
end

def resultS (P : Program) (s : St) : ResultVar → Option SV
  | .tmp t => some (stripC s.path (s.ev (.tmp t)))
  | .cell a t => loadS P t s.heap (stripC s.path (s.ev (.tmp a)))
def resultsS (P : Program) (s : St) : List ResultVar → Option (List SV)
  | [] => some []
  | r :: rs => match resultS P s r, resultsS P s rs with
    | some v, some vs => some (v :: vs)
    | _, _ => none
def packS : List SV → SV
  | [v] => v
  | vs => .tup (.ofL vs)

def putArgs (i : Nat) : List SV → TT → TT
  | [], t => t
  | a :: l, t => putArgs (i + 1) l (t.set i a)
def enterS (fn : Func) (args : List SV) (h : List SO) (p : List E) : St :=
  { tmps := putArgs 0 args (.full (.tup .nil) (Nat.log2 (args.length + (fn.ntmps - args.length)) + 1)), nt := args.length + (fn.ntmps - args.length), defers := [], heap := h, path := p }
def leaveV (n0 : Nat) (v : SV) (h : List SO) : SV × List SO :=
  match Nat.beq h.length n0 with
  | true => (v, h)
  | false => match v.low n0 && lowH n0 n0 h with
    | true => (v, h.take n0)
    | false => match selectS n0 v.refs h with
      | some (sel, h') => match v.ren (indexIn · sel) with
        | some v' => (v', h')
        | none => (v, h)
      | none => (v, h)
def resSlots (fn : Func) : List Tmp := fn.results.toList.map fun
  | .tmp t => t
  | .cell t _ => t
/-- How a frame stands whose deferred calls are made. -/
inductive U
  | ret | pan (s : SV) (recovered : Bool)
  deriving DecidableEq, Repr, Inhabited
def U.settle : U → U
  | .pan _ true => .ret
  | u => u
def U.recover : U → SV × U
  | .pan s false => (s, .pan s true)
  | u => (.nilif, u)
/-- A deferred function that asks first what it recovers. -/
def recovers : Code → Option (Option Tmp × Code)
  | .seq (.region _ ops false) rest => match ops.toList with
    | [o] => match o.op, o.guard with
      | .call { callee := .builtin .recover, .. }, none => some (o.dst, rest)
      | _, _ => none
    | _ => none
  | _ => none
def leaveD (P : Program) (fn : Func) (n0 : Nat) (u : U) : X × St → Tree (U × List SO × List E)
  | (x, s) => match x, s.defers with
    | .normal, [] | .ret, [] => match resultsS P s fn.results.toList with
      | some _ => .leaf (u, (leaveV n0 (.tup .nil) s.heap).2, s.path)
      | none => .bad "results"
    | _, _ => .bad "leave deferred"
def evD (P : Program) (K : CallK) (N : Nat) (f : FuncId) (args : List SV) (h : List SO) (p : List E) (u : U) : Tree (U × List SO × List E) :=
  match P.funcs[f]? with
  | some fn => match fn.body with
    | some c => match recovers c with
      | some (dst, rest) => (evCode P K (resSlots fn) N rest ((enterS fn args h p).put dst u.recover.1)).bind (leaveD P fn h.length u.recover.2)
      | none => (evCode P K (resSlots fn) N c (enterS fn args h p)).bind (leaveD P fn h.length u)
    | none => .bad "no body"
  | none => .bad "no function"
def evDs (P : Program) (K : CallK) (N : Nat) (fn : Func) (n0 : Nat) (tmps : TT) (nt : Nat) : List (FuncId × List SV × List SV) → U → List SO → List E → Tree (Out × List SO × List E)
  | [], u, h, p => match u with
    | .ret => match resultsS P { tmps, nt, defers := [], heap := h, path := p } fn.results.toList with
      | some vs => .leaf (.ret (leaveV n0 (packS vs) h).1, (leaveV n0 (packS vs) h).2, p)
      | none => .bad "results"
    | .pan v false => .leaf (.pan (leaveV n0 v h).1, (leaveV n0 v h).2, p)
    | .pan _ true => .bad "settle"
  | (f, a, c) :: ds, u, h, p => match P.funcs[f]? with
    | some g => if g.name == "runtime.NumGoroutine" || g.body.isNone then .bad "deferred: no body" else
      (evD P K N f (a ++ c) h p u).bind fun (u', h', p') => evDs P K N fn n0 tmps nt ds u'.settle h' p'
    | none => .bad "deferred: none"
def leaveS (P : Program) (K : CallK) (N : Nat) (fn : Func) (n0 : Nat) : X × St → Tree (Out × List SO × List E)
  | (x, s) => match x with
    | .normal | .ret => evDs P K N fn n0 s.tmps s.nt s.defers .ret s.heap s.path
    | .panic v => evDs P K N fn n0 s.tmps s.nt s.defers (.pan v false) s.heap s.path
    | _ => .bad "leave"

/-- A call; 'C': the functions that are met by a contract. -/
def evFn (P : Program) (C : FuncId → Option (List SV → List SO → List E → Tree (Out × List SO × List E))) (N : Nat) : Nat → CallK
  | 0, _, _, _, _ => .bad "depth"
  | n + 1, f, args, h, p => match C f with
    | some c => c args h p
    | none => match P.funcs[f]? with
      | some fn => match fn.body with
        | some c => (evCode P (evFn P C N n) (resSlots fn) N c (enterS fn args h p)).bind (leaveS P (evFn P C N n) N fn h.length)
        | none => .bad "no body"
      | none => .bad "no function"
end Go.Sx
