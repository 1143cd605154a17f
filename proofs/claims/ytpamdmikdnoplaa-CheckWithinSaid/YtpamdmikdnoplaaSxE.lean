/- Operations that look at no memory: the one function, and that the model comes to the same. -/
import Derived.Test.YtpamdmikdnoplaaSxD
namespace Go.Sx
set_option linter.unusedVariables false
variable {P : Program} {ρ : Env} {β : List Nat}

def sure : SV → Bool
  | .unk | .cond .. | .val .. => false
  | _ => true
def convS (P : Program) (src dst : TypeId) (x : SV) : Option SV :=
  match P.underlying src, P.underlying dst, x with
  | some _, some (.int k), .int _ e => some (.int k (.mkWrap k e))
  | _, _, _ => none
def assertS (P : Program) (asserted : TypeId) (ok : Bool) (x : SV) : Option SV :=
  match P.underlying asserted, x with
  | some (.interface _), _ => none
  | some _, .nilif => if ok then (zeroS P asserted).map fun z => .tup (.cons z (.cons (.bool ff) .nil)) else none
  | some _, .ifc t v =>
    if t = asserted then some (if ok then .tup (.cons v (.cons (.bool tt) .nil)) else v)
    else if ok then (zeroS P asserted).map fun z => .tup (.cons z (.cons (.bool ff) .nil)) else none
  | _, _ => none
def builtinS (P : Program) (b : Builtin) (argTypes : Array TypeId) (args : List SV) : Option SV :=
  match b, args with
  | .min, [.int k a, .int k' b] => some (.int k (.mkIte (.mkLt b a) b a))
  | .max, [.int k a, .int k' b] => some (.int k (.mkIte (.mkLt a b) b a))
  | .len, [x] => match argTypes[0]? with
    | some t => match P.underlying t, x with
      | some (.slice _), .slc _ _ len _ => some (.int .i64 len)
      | some (.slice _), .snil => some (.int .i64 (.lit 0))
      | some (.array n _), _ => some (.int .i64 (.lit n))
      | _, _ => none
    | none => none
  | _, _ => none
def fieldAddrS (P : Program) (t : TypeId) (x : SV) (f : Nat) : Option SV :=
  match P.underlying t, x with
  | some (.struct fields), .ptr i off => match fields[f]? with
    | some fd => if (P.info? fd.type).isSome && P.cellsOf fd.type != 0 then some (.ptr i (off + fd.offset)) else none
    | none => none
  | some (.struct fields), .ptrx i base stride cnt e => match fields[f]? with
    | some fd => if (P.info? fd.type).isSome && P.cellsOf fd.type != 0 then some (.ptrx i (base + fd.offset) stride cnt e) else none
    | none => none
  | _, _ => none
def fieldS (P : Program) (t : TypeId) (x : SV) (f : Nat) : Option SV :=
  match P.underlying t, x with
  | some (.struct fields), .agg l => match fields[f]? with
    | some fd => partS P fd.type l.toL fd.offset
    | none => none
  | _, _ => none
def indexS (P : Program) (t : TypeId) (x ix : SV) : Option SV :=
  match P.underlying t, x, ix with
  | some (.array len elem), .agg l, .int _ (.lit n) => if decide (0 ≤ n ∧ n < len) && (P.info? elem).isSome then partS P elem l.toL (n.toNat * P.cellsOf elem) else none
  | _, _, _ => none
def indexX (P : Program) (t : TypeId) (x ix : SV) : Option (List E × SV) :=
  match P.underlying t, x, ix with
  | some (.array len elem), .agg l, .int _ e => match P.underlying elem with
    | some (.struct _) | some (.array _ _) => if (P.info? elem).isSome then (rowS e l.toL 0 (P.cellsOf elem) len (P.cellsOf elem)).map fun r => ([.mkLe (.lit 0) e, .mkLt e (.lit len)], .agg (.ofL r)) else none
    | some _ => if (P.info? elem).isSome && P.cellsOf elem == 1 then (rowS e l.toL 0 1 len 1).bind fun r => match r with
      | [a] => some ([.mkLe (.lit 0) e, .mkLt e (.lit len)], a)
      | _ => none
      else none
    | none => none
  | _, _, _ => none
/-- How many elements a slice has at most, by its block. -/
def indexAddrX (P : Program) (t : TypeId) (x ix : SV) : Option (List E × SV) :=
  match P.underlying t, x, ix with
  | some (.array len elem), .ptr i off, .int _ e => if (P.info? elem).isSome then some ([.mkLe (.lit 0) e, .mkLt e (.lit len)], .ptrx i off (P.cellsOf elem) len e) else none
  | some (.slice elem), .slc i off (.lit len) _, .int _ e => if (P.info? elem).isSome then some ([.mkLe (.lit 0) e, .mkLt e (.lit len)], .ptrx i off (P.cellsOf elem) len.toNat e) else none
  | _, _, _ => none
def litP (path : List E) : SV → SV
  | .int k e => match valE path e with
    | some n => .int k (.lit n)
    | none => .int k e
  | s => s
theorem litP_rel {ρ : Env} {β : List Nat} {path : List E} (hp : ρ.Path path) {s : SV} {v : Value} (h : s.rel ρ β v) : (litP path s).rel ρ β v := by
  unfold litP; split
  · split
    · rename_i hd; simp only [SV.rel, E.den] at h ⊢; rw [← valE_sound hp hd]; exact h
    · exact h
  · exact h
def indexAddrS (P : Program) (t : TypeId) (x ix : SV) : Option (List E × SV) :=
  match P.underlying t, x, ix with
  | some (.array len elem), .ptr i off, .int _ (.lit n) => if decide (0 ≤ n ∧ n < len) && (P.info? elem).isSome then some ([], .ptr i (off + n.toNat * P.cellsOf elem)) else none
  | some (.slice elem), .slc i off len _, .int _ (.lit n) => if decide (0 ≤ n) && (P.info? elem).isSome then some ([.mkLt (.lit n) len], .ptr i (off + n.toNat * P.cellsOf elem)) else none
  | _, _, _ => none
def unS (op : UnOp) (x : SV) : Option SV :=
  match op, x with
  | .not, .bool e => some (.bool (.mkNot e))
  | .neg, .int k a => some (.int k (.mkBin .sub k (.lit 0) a))
  | .xor, .int k a => some (.int k (.mkBin .xor k (.lit (if k.signed then -1 else k.max)) a))
  | _, _ => none
def nilCheckS (x : SV) : Option SV :=
  match x with
  | .ptr .. | .ptrx .. | .slc .. | .snil | .map .. | .mapnil | .fn .. => some x
  | _ => none

/-- What an operation yields that looks at no memory, and what must hold that it does. -/
def evPure (P : Program) (path : List E) (ev : Operand → SV) (op : Op) : Option (List E × SV) :=
  let g := fun x => stripC path (ev x)
  match op with
  | .move x | .assign x => some ([], g x)
  | .pick c a b => match g c with
    | .bool e => match decideE path e with
      | some true => some ([], g a)
      | some false => some ([], g b)
      | none => (pickV e (stripC (assumeT e path) (ev a)) (stripC (assumeF e path) (ev b))).map fun s => ([], s)
    | _ => none
  | .build t parts => (buildS P t (parts.toList.map fun (i, x) => (i, g x))).map fun s => ([], s)
  | .fieldAddr t x f => (fieldAddrS P t (g x) f).map fun s => ([], s)
  | .field t x f => (fieldS P t (g x) f).map fun s => ([], s)
  | .index t x ix => match indexS P t (g x) (litP path (g ix)) with
    | some s => some ([], s)
    | none => indexX P t (g x) (g ix)
  | .indexAddr t x ix => match indexAddrS P t (g x) (litP path (g ix)) with
    | some s => some s
    | none => indexAddrX P t (g x) (g ix)
  | .binOp op t x y _ => if sure (g y) then binS P op t (isCst x || isCst y) (g x) (g y) else none
  | .unOp op _ x => (unS op (g x)).map fun s => ([], s)
  | .convert src dst x => (convS P src dst (g x)).map fun s => ([], s)
  | .makeInterface t x => match P.underlying t with
    | some (.interface _) => none
    | some _ => some ([], .ifc t (g x))
    | none => none
  | .makeFunc (.func f) first caps => if first.size = 0 then some ([], .fn f (.ofL (caps.toList.map g))) else none
  | .extract x i => match g x with
    | .tup l => (l.toL[i]?).map fun s => ([], s)
    | _ => none
  | .nilCheck x => (nilCheckS (g x)).map fun s => ([], s)
  | .typeAssert x _ asserted ok => (assertS P asserted ok (g x)).map fun s => ([], s)
  | .call { callee := .builtin b, args, argTypes } => (builtinS P b argTypes (args.toList.map g)).map fun s => ([], s)
  | _ => none

theorem RelL.map {g : Operand → SV} {e : Operand → Value} (h : ∀ x, (g x).rel ρ β (e x)) : ∀ (l : List Operand), RelL ρ β (l.map g) (l.map e)
  | [] => rfl
  | x :: l => ⟨e x, _, rfl, h x, RelL.map h l⟩

theorem run_convS {src dst : TypeId} {x s : SV} (h : convS P src dst x = some s) {v : Value} (hv : x.rel ρ β v) : ∃ u, s.rel ρ β u ∧ ∀ w, (convert src dst v).run P w = .ok u w := by
  unfold convS at h
  split at h
  · rename_i d k k' e hs hd
    simp only [Option.some.injEq] at h; subst h
    simp only [SV.rel] at hv; subst hv
    refine ⟨_, rfl, fun w => ?_⟩
    simp only [convert, Sem.run_bind, run_underlying hs, run_underlying hd, Result.andThen_ok, E.den_mkWrap]
    cases d <;> simp [Conv.intToInt]
  · simp at h
theorem run_assertS {t : TypeId} {ok : Bool} {x s : SV} (h : assertS P t ok x = some s) {v : Value} (hv : x.rel ρ β v) (xt : TypeId) :
    ∃ u, s.rel ρ β u ∧ ∀ w, (Instr.typeAssert v xt t ok).run P w = .ok u w := by
  unfold assertS at h
  split at h
  · simp at h
  · rename_i d hni hu
    split at h
    · rename_i hok; subst hok
      cases hz : zeroS P t with
      | none => simp [hz] at h
      | some z =>
        simp only [hz, Option.map_some, Option.some.injEq] at h; subst h
        obtain ⟨zv, hzv, hzr⟩ := run_zeroS hz ρ β
        simp only [SV.rel] at hv; subst hv
        refine ⟨.tuple #[zv, .bool false], ⟨[zv, .bool false], ⟨_, _, rfl, hzv, _, _, rfl, by simp [SV.rel, ff, E.denB], rfl⟩, rfl⟩, fun w => ?_⟩
        simp only [Instr.typeAssert, Sem.run_bind, run_underlying hu, Result.andThen_ok]
        cases d <;> first | (exact absurd rfl (hni _)) | simp [hzr]
    · simp at h
  · rename_i d t' x' hni hu
    simp only [SV.rel] at hv
    obtain ⟨u, hu', rfl⟩ := hv
    split at h
    · rename_i ht; subst ht
      simp only [Option.some.injEq] at h; subst h
      cases ok
      · refine ⟨u, hu', fun w => ?_⟩
        simp only [Instr.typeAssert, Sem.run_bind, run_underlying hu, Result.andThen_ok]
        cases d <;> first | (exact absurd rfl (hni _)) | simp
      · refine ⟨.tuple #[u, .bool true], ⟨[u, .bool true], ⟨_, _, rfl, hu', _, _, rfl, by simp [SV.rel, tt, E.denB], rfl⟩, rfl⟩, fun w => ?_⟩
        simp only [Instr.typeAssert, Sem.run_bind, run_underlying hu, Result.andThen_ok]
        cases d <;> first | (exact absurd rfl (hni _)) | simp
    · rename_i ht
      split at h
      · rename_i hok; subst hok
        cases hz : zeroS P t with
        | none => simp [hz] at h
        | some z =>
          simp only [hz, Option.map_some, Option.some.injEq] at h; subst h
          obtain ⟨zv, hzv, hzr⟩ := run_zeroS hz ρ β
          refine ⟨.tuple #[zv, .bool false], ⟨[zv, .bool false], ⟨_, _, rfl, hzv, _, _, rfl, by simp [SV.rel, ff, E.denB], rfl⟩, rfl⟩, fun w => ?_⟩
          simp only [Instr.typeAssert, Sem.run_bind, run_underlying hu, Result.andThen_ok]
          cases d <;> first | (exact absurd rfl (hni _)) | simp [hzr, ht]
      · simp at h
  · simp at h
theorem run_builtinS {b : Builtin} {argTypes : Array TypeId} {args : List SV} {s : SV} (h : builtinS P b argTypes args = some s) {vs : Array Value}
    (hv : RelL ρ β args vs.toList) (type : TypeId) (consts : Array Bool) : ∃ u, s.rel ρ β u ∧ ∀ w, (builtin b argTypes type consts vs).run P w = .ok (.value u) w := by
  unfold builtinS at h
  split at h
  · simp only [Option.some.injEq] at h; subst h
    obtain ⟨v1, r1, e1, h1, v2, r2, e2, h2, h3⟩ := hv
    simp only [RelL] at h3; subst h3 e2
    simp only [SV.rel] at h1 h2; subst h1 h2
    refine ⟨_, rfl, fun w => ?_⟩
    simp only [builtin, Builtin.min_, e1, Sem.run_bind]
    simp [List.foldlM, Builtin.min2, E.den_mkIte, E.denB_mkLt]
  · simp only [Option.some.injEq] at h; subst h
    obtain ⟨v1, r1, e1, h1, v2, r2, e2, h2, h3⟩ := hv
    simp only [RelL] at h3; subst h3 e2
    simp only [SV.rel] at h1 h2; subst h1 h2
    refine ⟨_, rfl, fun w => ?_⟩
    simp only [builtin, Builtin.max_, e1, Sem.run_bind]
    simp [List.foldlM, Builtin.max2, E.den_mkIte, E.denB_mkLt]
  · obtain ⟨v1, r1, e1, h1, h3⟩ := hv
    simp only [RelL] at h3; subst h3
    have e0 : vs[0]? = some v1 := by rw [← Array.getElem?_toList, e1]; rfl
    split at h
    · rename_i t ht
      split at h
      · rename_i el i off len cap hu
        simp only [Option.some.injEq] at h; subst h
        simp only [SV.rel] at h1
        obtain ⟨b, hb, n, c, hn, hc, rfl⟩ := h1
        refine ⟨.int .i64 n, by simp [SV.rel, hn], fun w => ?_⟩
        simp [builtin, Builtin.len_, ht, e0, run_underlying hu, goInt]
      · rename_i el hu
        simp only [Option.some.injEq] at h; subst h
        simp only [SV.rel] at h1; subst h1
        refine ⟨.int .i64 0, by simp [SV.rel, E.den], fun w => ?_⟩
        simp [builtin, Builtin.len_, ht, e0, run_underlying hu, goInt]
      · rename_i n el hu
        simp only [Option.some.injEq] at h; subst h
        refine ⟨.int .i64 n, by simp [SV.rel, E.den], fun w => ?_⟩
        simp [builtin, Builtin.len_, ht, e0, run_underlying hu, goInt]
      · simp at h
    · simp at h
  · simp at h
theorem Addr.add_none (b o j : Nat) : (⟨b, o, none⟩ : Addr).add j = ⟨b, o + j, none⟩ := by unfold Addr.add; split <;> simp_all
theorem run_fieldAddrS {t : TypeId} {x s : SV} {f : Nat} (h : fieldAddrS P t x f = some s) {v : Value} (hv : x.rel ρ β v) :
    ∃ u, s.rel ρ β u ∧ ∀ w, (Instr.fieldAt t v f).run P w = .ok u w := by
  unfold fieldAddrS at h
  split at h
  · rename_i fields i off hu
    split at h
    · rename_i fd hf
      split at h
      · rename_i hc
        simp only [Bool.and_eq_true, bne_iff_ne] at hc
        simp only [Option.some.injEq] at h; subst h
        simp only [SV.rel] at hv
        obtain ⟨b, hb, rfl⟩ := hv
        refine ⟨_, ⟨b, hb, rfl⟩, fun w => ?_⟩
        simp [Instr.fieldAt, run_underlying hu, hf, Instr.sureAddr, fieldPlace, run_sizeOf' hc.1, hc.2, Addr.add_none]
      · simp at h
    · simp at h
  · rename_i fields i base stride cnt e hu
    split at h
    · rename_i fd hf
      split at h
      · rename_i hc
        simp only [Bool.and_eq_true, bne_iff_ne] at hc
        simp only [Option.some.injEq] at h; subst h
        simp only [SV.rel] at hv
        obtain ⟨b, hb, h1, h2, rfl⟩ := hv
        refine ⟨_, ⟨b, hb, h1, h2, rfl⟩, fun w => ?_⟩
        simp [Instr.fieldAt, run_underlying hu, hf, Instr.sureAddr, fieldPlace, run_sizeOf' hc.1, hc.2, Addr.add_none]
        omega
      · simp at h
    · simp at h
  · simp at h
theorem run_fieldS {t : TypeId} {x s : SV} {f : Nat} (h : fieldS P t x f = some s) {v : Value} (hv : x.rel ρ β v) :
    ∃ u, s.rel ρ β u ∧ ∀ w, (Instr.field t v f).run P w = .ok u w := by
  unfold fieldS at h
  split at h
  · rename_i fields l hu
    split at h
    · rename_i fd hf
      simp only [SV.rel] at hv
      obtain ⟨vs, hvs, rfl⟩ := hv
      obtain ⟨u, hur, hrun⟩ := run_partS h (vs := vs.toArray) (by simpa using relS_toL hvs)
      refine ⟨u, hur, fun w => ?_⟩
      simp [Instr.field, run_underlying hu, hf, asAgg, hrun]
    · simp at h
  · simp at h
theorem run_indexS {t : TypeId} {x ix s : SV} (h : indexS P t x ix = some s) {v vi : Value} (hv : x.rel ρ β v) (hi : ix.rel ρ β vi) :
    ∃ u, s.rel ρ β u ∧ ∀ w, (Instr.index t v vi).run P w = .ok u w := by
  unfold indexS at h
  split at h
  · rename_i len elem l k n hu
    split at h
    · rename_i hc
      simp only [Bool.and_eq_true, decide_eq_true_eq] at hc
      simp only [SV.rel, E.den] at hv hi
      subst hi
      obtain ⟨vs, hvs, rfl⟩ := hv
      obtain ⟨u, hur, hrun⟩ := run_partS h (vs := vs.toArray) (by simpa using relS_toL hvs)
      refine ⟨u, hur, fun w => ?_⟩
      simp only [Instr.index, asIntOf, Sem.run_bind, Sem.run_pure, Result.andThen_ok, run_underlying hu, if_pos hc.1, run_sizeOf' hc.2, hrun]
    · simp at h
  · simp at h
theorem run_indexAddrS {t : TypeId} {x ix s : SV} {ns : List E} (h : indexAddrS P t x ix = some (ns, s)) (hn : ∀ n ∈ ns, n.denB ρ = true) {v vi : Value} (hv : x.rel ρ β v) (hi : ix.rel ρ β vi) :
    ∃ u, s.rel ρ β u ∧ ∀ w, (Instr.indexAt t v vi).run P w = .ok u w := by
  unfold indexAddrS at h
  split at h
  · rename_i len elem i off k n hu
    split at h
    · rename_i hc
      simp only [Bool.and_eq_true, decide_eq_true_eq] at hc
      simp only [Option.some.injEq, Prod.mk.injEq] at h
      obtain ⟨rfl, rfl⟩ := h
      simp only [SV.rel, E.den] at hv hi
      subst hi
      obtain ⟨b, hb, rfl⟩ := hv
      refine ⟨_, ⟨b, hb, rfl⟩, fun w => ?_⟩
      simp only [Instr.indexAt, asIntOf, Sem.run_bind, Sem.run_pure, Result.andThen_ok, run_underlying hu, Instr.sureAddr, if_pos hc.1, run_sizeOf' hc.2, Addr.add_none]
    · simp at h
  · rename_i elem i off len cap k n hu
    split at h
    · rename_i hc
      simp only [Bool.and_eq_true, decide_eq_true_eq] at hc
      simp only [Option.some.injEq, Prod.mk.injEq] at h
      obtain ⟨rfl, rfl⟩ := h
      have hlt := hn _ (List.mem_singleton_self _)
      rw [E.denB_mkLt] at hlt
      have hlt := of_decide_eq_true hlt
      simp only [SV.rel, E.den] at hv hi hlt
      subst hi
      obtain ⟨b, hb, m, c, hm, hcap, rfl⟩ := hv
      refine ⟨_, ⟨b, hb, rfl⟩, fun w => ?_⟩
      have hr : 0 ≤ n ∧ n < (m : Int) := ⟨hc.1, by omega⟩
      simp only [Instr.indexAt, asIntOf, Sem.run_bind, Sem.run_pure, Result.andThen_ok, run_underlying hu, if_pos hr, run_sizeOf' hc.2, Addr.add_none]
    · simp at h
  · simp at h
theorem needs2 {e : E} {n : Int} (hn : ∀ x ∈ ([.mkLe (.lit 0) e, .mkLt e (.lit n)] : List E), x.denB ρ = true) : 0 ≤ e.den ρ ∧ e.den ρ < n := by
  have h1 := hn _ (List.mem_cons_self ..)
  have h2 := hn _ (List.mem_cons_of_mem _ (List.mem_cons_self ..))
  rw [E.denB_mkLe] at h1
  rw [E.denB_mkLt] at h2
  exact ⟨of_decide_eq_true h1, of_decide_eq_true h2⟩
theorem run_indexX {t : TypeId} {x ix s : SV} {ns : List E} (h : indexX P t x ix = some (ns, s)) (hn : ∀ n ∈ ns, n.denB ρ = true) {v vi : Value} (hv : x.rel ρ β v) (hi : ix.rel ρ β vi) :
    ∃ u, s.rel ρ β u ∧ ∀ w, (Instr.index t v vi).run P w = .ok u w := by
  have part1 : ∀ {elem : TypeId} {d : TypeDesc} {off : Nat} {vs : Array Value} {u : Value}, P.underlying elem = some d → d.isRow = false → vs[off]? = some u → ∀ w, (part elem vs off).run P w = .ok u w := fun hu hd hv w => by
    simp only [part, Sem.run_bind, run_isAgg' hu, hd, Result.andThen_ok, Bool.false_eq_true, if_false, hv, Sem.run_pure]
  have partR : ∀ {elem : TypeId} {d : TypeDesc} {off : Nat} {vs : Array Value}, P.underlying elem = some d → d.isRow = true → (P.info? elem).isSome = true → ∀ w, (part elem vs off).run P w = .ok (.agg (vs.extract off (off + P.cellsOf elem))) w := fun hu hd hi w => by
    simp [part, run_isAgg' hu, hd, run_sizeOf' hi]
  unfold indexX at h
  split at h
  · rename_i len elem l k e hu
    simp only [SV.rel] at hv hi
    subst hi
    obtain ⟨vs, hvs, rfl⟩ := hv
    have hl := relS_toL hvs
    have row : ∀ {d : TypeDesc}, P.underlying elem = some d → d.isRow = true → (if (P.info? elem).isSome = true then (rowS e l.toL 0 (P.cellsOf elem) len (P.cellsOf elem)).map fun r => (([.mkLe (.lit 0) e, .mkLt e (.lit len)] : List E), SV.agg (.ofL r)) else none) = some (ns, s) →
        ∃ u, s.rel ρ β u ∧ ∀ w, (Instr.index t (.agg vs.toArray) (.int k (e.den ρ))).run P w = .ok u w := by
      intro d hd hr h
      split at h
      · rename_i hi
        simp only [Option.map_eq_some_iff, Prod.mk.injEq] at h
        obtain ⟨r, h1, rfl, rfl⟩ := h
        obtain ⟨n0, n1⟩ := needs2 hn
        obtain ⟨n, hnn⟩ : ∃ n : Nat, e.den ρ = n := ⟨(e.den ρ).toNat, by omega⟩
        rw [hnn] at n1 ⊢
        refine ⟨.agg (vs.toArray.extract (n * P.cellsOf elem) (n * P.cellsOf elem + P.cellsOf elem)), ?_, fun w => ?_⟩
        · rcases rowS_rel hnn (by omega) hl h1 with ⟨q, _⟩ | ⟨h0, rfl⟩
          · refine ⟨_, relS_ofL q, ?_⟩
            rw [Nat.zero_add, Nat.mul_comm]
            congr 1
            apply Array.ext'
            simp [List.extract_eq_take_drop]
          · refine ⟨[], rfl, ?_⟩
            congr 1
            apply Array.ext'
            simp [h0]
        · simp only [Instr.index, asIntOf, Sem.run_bind, Sem.run_pure, Result.andThen_ok, run_underlying hu]
          rw [if_pos ⟨by omega, by omega⟩]
          simp only [Sem.run_bind, run_sizeOf' hi, Result.andThen_ok, Int.toNat_natCast, partR hd hr hi]
      · cases h
    split at h
    · rename_i hd; exact row hd rfl h
    · rename_i hd; exact row hd rfl h
    · rename_i d hd1 hd2 hd
      have hr : d.isRow = false := by
        cases d <;> first | rfl | (exfalso; first | exact hd1 _ rfl | exact hd2 _ _ rfl)
      split at h
      · rename_i hi
        simp only [Bool.and_eq_true, beq_iff_eq] at hi
        simp only [Option.bind_eq_some_iff] at h
        obtain ⟨r, h1, h2⟩ := h
        split at h2
        · rename_i a
          simp only [Option.some.injEq, Prod.mk.injEq] at h2
          obtain ⟨rfl, rfl⟩ := h2
          obtain ⟨n0, n1⟩ := needs2 hn
          obtain ⟨n, hnn⟩ : ∃ n : Nat, e.den ρ = n := ⟨(e.den ρ).toNat, by omega⟩
          rw [hnn] at n1 ⊢
          rcases rowS_rel hnn (by omega) hl h1 with ⟨q, hle⟩ | ⟨h0, _⟩
          · obtain ⟨u, rr, hu1, hu2, _⟩ := q
            have hu3 : vs[n]? = some u := by
              have := congrArg (fun (x : List Value) => x[0]?) hu1
              simpa using this
            refine ⟨u, hu2, fun w => ?_⟩
            simp only [Instr.index, asIntOf, Sem.run_bind, Sem.run_pure, Result.andThen_ok, run_underlying hu]
            rw [if_pos ⟨by omega, by omega⟩]
            simp only [Sem.run_bind, run_sizeOf' hi.1, Result.andThen_ok, Int.toNat_natCast, hi.2, Nat.mul_one]
            exact part1 hd hr (by simpa using hu3) w
          · omega
        · cases h2
      · cases h
    · cases h
  · cases h
theorem run_indexAddrX {t : TypeId} {x ix s : SV} {ns : List E} (h : indexAddrX P t x ix = some (ns, s)) (hn : ∀ n ∈ ns, n.denB ρ = true) {v vi : Value} (hv : x.rel ρ β v) (hi : ix.rel ρ β vi) :
    ∃ u, s.rel ρ β u ∧ ∀ w, (Instr.indexAt t v vi).run P w = .ok u w := by
  unfold indexAddrX at h
  split at h
  · rename_i len elem i off k e hu
    split at h
    · rename_i hc
      simp only [Option.some.injEq, Prod.mk.injEq] at h
      obtain ⟨rfl, rfl⟩ := h
      simp only [SV.rel] at hv hi
      subst hi
      obtain ⟨b, hb, rfl⟩ := hv
      obtain ⟨n0, n1⟩ := needs2 hn
      refine ⟨_, ⟨b, hb, n0, by omega, rfl⟩, fun w => ?_⟩
      simp only [Instr.indexAt, asIntOf, Sem.run_bind, Sem.run_pure, Result.andThen_ok, run_underlying hu, Instr.sureAddr]
      rw [if_pos ⟨n0, n1⟩]
      simp only [Sem.run_bind, run_sizeOf' hc, Result.andThen_ok, Addr.add_none, Sem.run_pure, Nat.mul_comm]
    · cases h
  · rename_i elem i off len cap k e hu
    split at h
    · rename_i hc
      simp only [Option.some.injEq, Prod.mk.injEq] at h
      obtain ⟨rfl, rfl⟩ := h
      simp only [SV.rel, E.den] at hv hi
      subst hi
      obtain ⟨b, hb, m, c, hm, hcap, rfl⟩ := hv
      obtain ⟨n0, n1⟩ := needs2 hn
      refine ⟨_, ⟨b, hb, n0, by omega, rfl⟩, fun w => ?_⟩
      simp only [Instr.indexAt, asIntOf, Sem.run_bind, Sem.run_pure, Result.andThen_ok, run_underlying hu]
      rw [if_pos ⟨n0, by omega⟩]
      simp only [Sem.run_bind, run_sizeOf' hc, Result.andThen_ok, Addr.add_none, Sem.run_pure, Nat.mul_comm]
    · cases h
  · cases h
theorem run_unS {op : UnOp} {x s : SV} (h : unS op x = some s) {v : Value} (hv : x.rel ρ β v) : ∃ u, s.rel ρ β u ∧ ∀ w, (Op.unary op v).run P w = .ok u w := by
  unfold unS at h
  split at h <;> first | (simp at h; done) | (simp only [Option.some.injEq] at h; subst h; simp only [SV.rel] at hv; subst hv)
  · exact ⟨_, rfl, fun w => by simp [Op.unary]⟩
  · exact ⟨_, rfl, fun w => by simp [Op.unary, Op.intArith, arith, E.den]⟩
  · exact ⟨_, rfl, fun w => by simp [Op.unary, Op.intBits, arith, E.den]⟩

theorem evPure_sound {path : List E} (hp : ρ.Path path) {ev : Operand → SV} {e : Operand → Value} (he : ∀ x, (ev x).rel ρ β (e x)) {o : Oper} {ns : List E} {s : SV}
    (h : evPure P path ev o.op = some (ns, s)) (hn : ∀ n ∈ ns, n.denB ρ = true) : ∃ v, s.rel ρ β v ∧ ∀ w, (execOp e o).run P w = .ok (.value v) w := by
  obtain ⟨dst, op, type, pos, after, guard⟩ := o
  have hg : ∀ x, (stripC path (ev x)).rel ρ β (e x) := fun x => stripC_rel hp (he x)
  simp only at h
  unfold evPure at h
  simp only at h
  split at h
  case h_1 x =>
    simp only [Option.some.injEq, Prod.mk.injEq] at h; obtain ⟨rfl, rfl⟩ := h
    exact ⟨_, hg x, fun w => by simp [execOp]⟩
  case h_2 x =>
    simp only [Option.some.injEq, Prod.mk.injEq] at h; obtain ⟨rfl, rfl⟩ := h
    exact ⟨_, hg x, fun w => by simp [execOp]⟩
  case h_3 c a b =>
    split at h
    · rename_i b0 hb0
      have hc := hg c
      rw [hb0] at hc
      simp only [SV.rel] at hc
      split at h
      · rename_i hd
        simp only [Option.some.injEq, Prod.mk.injEq] at h; obtain ⟨rfl, rfl⟩ := h
        have := decideE_sound hp hd
        exact ⟨_, hg a, fun w => by simp [execOp, hc, asBool, this]⟩
      · rename_i hd
        simp only [Option.some.injEq, Prod.mk.injEq] at h; obtain ⟨rfl, rfl⟩ := h
        have := decideE_sound hp hd
        exact ⟨_, hg b, fun w => by simp [execOp, hc, asBool, this]⟩
      · cases hpk : pickV b0 (stripC (assumeT b0 path) (ev a)) (stripC (assumeF b0 path) (ev b)) with
        | none => simp [hpk] at h
        | some s' =>
          simp only [hpk, Option.map_some, Option.some.injEq, Prod.mk.injEq] at h; obtain ⟨rfl, rfl⟩ := h
          refine ⟨if b0.denB ρ then e a else e b, pickV_rel hpk (fun h1 => ?_) (fun h1 => ?_), fun w => by simp [execOp, hc, asBool]⟩
          · rw [if_pos h1]; exact stripC_rel (hp.assumeT h1) (he a)
          · rw [h1]; exact stripC_rel (hp.assumeF h1) (he b)
    · simp at h
  case h_4 t parts =>
    cases hb : buildS P t (parts.toList.map fun (i, x) => (i, stripC path (ev x))) with
    | none => simp [hb] at h
    | some s' =>
      simp only [hb, Option.map_some, Option.some.injEq, Prod.mk.injEq] at h; obtain ⟨rfl, rfl⟩ := h
      obtain ⟨v, hv, hr⟩ := run_buildS hb (vparts := parts.map fun (i, x) => (i, e x)) (by simpa using RelP.map hg parts.toList)
      exact ⟨v, hv, fun w => by simp [execOp, hr]⟩
  case h_5 t x f =>
    cases hb : fieldAddrS P t (stripC path (ev x)) f with
    | none => simp [hb] at h
    | some s' =>
      simp only [hb, Option.map_some, Option.some.injEq, Prod.mk.injEq] at h; obtain ⟨rfl, rfl⟩ := h
      obtain ⟨v, hv, hr⟩ := run_fieldAddrS hb (hg x)
      exact ⟨v, hv, fun w => by simp [execOp, hr]⟩
  case h_6 t x f =>
    cases hb : fieldS P t (stripC path (ev x)) f with
    | none => simp [hb] at h
    | some s' =>
      simp only [hb, Option.map_some, Option.some.injEq, Prod.mk.injEq] at h; obtain ⟨rfl, rfl⟩ := h
      obtain ⟨v, hv, hr⟩ := run_fieldS hb (hg x)
      exact ⟨v, hv, fun w => by simp [execOp, hr]⟩
  case h_7 t x ix =>
    split at h
    · rename_i s' hb
      simp only [Option.some.injEq, Prod.mk.injEq] at h; obtain ⟨rfl, rfl⟩ := h
      obtain ⟨v, hv, hr⟩ := run_indexS hb (hg x) (litP_rel hp (hg ix))
      exact ⟨v, hv, fun w => by simp [execOp, hr]⟩
    · obtain ⟨v, hv, hr⟩ := run_indexX h hn (hg x) (hg ix)
      exact ⟨v, hv, fun w => by simp [execOp, hr]⟩
  case h_8 t x ix =>
    split at h
    · rename_i s' hb
      simp only [Option.some.injEq] at h; subst h
      obtain ⟨v, hv, hr⟩ := run_indexAddrS hb hn (hg x) (litP_rel hp (hg ix))
      exact ⟨v, hv, fun w => by simp [execOp, hr]⟩
    · obtain ⟨v, hv, hr⟩ := run_indexAddrX h hn (hg x) (hg ix)
      exact ⟨v, hv, fun w => by simp [execOp, hr]⟩
  case h_9 op t x y yt =>
    split at h
    · rename_i hsure
      have hx := hg x
      have hy := hg y
      generalize stripC path (ev x) = sx at *
      generalize stripC path (ev y) = sy at *
      unfold binS at h
      split at h
      · rename_i k a k' b
        simp only [SV.rel] at hx hy
        obtain ⟨v, hv, hr⟩ := run_binInt (P := P) (β := β) h hn t
        exact ⟨v, hv, fun w => by simp [execOp, hx, hy, run_eqGuard_int, hr]⟩
      · split at h
        · rename_i hni
          simp only [Bool.and_eq_true] at hni
          have hu : sy ≠ .unk := by intro hc; subst hc; simp [sure] at hsure
          have hc : ∀ g v, sy ≠ .cond g v := by intro g v hc; subst hc; simp [sure] at hsure
          have hv : ∀ i, sy ≠ .val i := by intro g hc; subst hc; simp [sure] at hsure
          split at h
          · cases hq : eqS P 12 t sx sy with
            | none => simp [hq] at h
            | some q =>
              simp only [hq, Option.map_some, Option.some.injEq, Prod.mk.injEq] at h; obtain ⟨rfl, rfl⟩ := h
              refine ⟨_, rfl, fun w => ?_⟩
              simp [execOp, run_eqGuard_ok (.inl rfl) hx hy hni.1 hni.2 hu hc hv, run_binOp_eql hx hy hni.1, run_eqS 12 hq (by omega : 12 ≤ 10000) hx hy]
          · cases hq : eqS P 12 t sx sy with
            | none => simp [hq] at h
            | some q =>
              simp only [hq, Option.map_some, Option.some.injEq, Prod.mk.injEq] at h; obtain ⟨rfl, rfl⟩ := h
              refine ⟨_, rfl, fun w => ?_⟩
              simp [execOp, run_eqGuard_ok (.inr rfl) hx hy hni.1 hni.2 hu hc hv, run_binOp_neq hx hy hni.1, run_eqS 12 hq (by omega : 12 ≤ 10000) hx hy]
          · simp at h
        · simp at h
    · simp at h
  case h_10 op t x =>
    cases hb : unS op (stripC path (ev x)) with
    | none => simp [hb] at h
    | some s' =>
      simp only [hb, Option.map_some, Option.some.injEq, Prod.mk.injEq] at h; obtain ⟨rfl, rfl⟩ := h
      obtain ⟨v, hv, hr⟩ := run_unS (P := P) hb (hg x)
      exact ⟨v, hv, fun w => by simp [execOp, hr]⟩
  case h_11 src dt x =>
    cases hb : convS P src dt (stripC path (ev x)) with
    | none => simp [hb] at h
    | some s' =>
      simp only [hb, Option.map_some, Option.some.injEq, Prod.mk.injEq] at h; obtain ⟨rfl, rfl⟩ := h
      obtain ⟨v, hv, hr⟩ := run_convS hb (hg x)
      exact ⟨v, hv, fun w => by simp [execOp, hr]⟩
  case h_12 t x =>
    split at h
    · simp at h
    · rename_i d hni hu
      simp only [Option.some.injEq, Prod.mk.injEq] at h; obtain ⟨rfl, rfl⟩ := h
      refine ⟨_, ⟨_, hg x, rfl⟩, fun w => ?_⟩
      simp only [execOp, Instr.makeInterface, Sem.run_bind, run_underlying hu, Result.andThen_ok]
      cases d <;> first | (exact absurd rfl (hni _)) | simp
    · simp at h
  case h_13 f first caps =>
    split at h
    · rename_i hf
      simp only [Option.some.injEq, Prod.mk.injEq] at h; obtain ⟨rfl, rfl⟩ := h
      have : first = #[] := Array.size_eq_zero_iff.1 hf
      subst this
      exact ⟨.func (.func f) #[] (caps.map e), ⟨caps.toList.map e, relS_ofL (RelL.map hg _), by rw [← Array.toList_map, Array.toArray_toList]⟩, fun w => by simp [execOp, Instr.makeFunc]⟩
    · simp at h
  case h_14 x i =>
    split at h
    · rename_i l hl
      cases hb : l.toL[i]? with
      | none => simp [hb] at h
      | some s' =>
        simp only [hb, Option.map_some, Option.some.injEq, Prod.mk.injEq] at h; obtain ⟨rfl, rfl⟩ := h
        have hx := hg x
        rw [hl] at hx
        simp only [SV.rel] at hx
        obtain ⟨vs, hvs, hx⟩ := hx
        obtain ⟨v, hv, hr⟩ := (relS_toL hvs).get hb
        exact ⟨v, hr, fun w => by simp [execOp, hx, Instr.extract, hv]⟩
    · simp at h
  case h_15 x =>
    cases hb : nilCheckS (stripC path (ev x)) with
    | none => simp [hb] at h
    | some s' =>
      simp only [hb, Option.map_some, Option.some.injEq, Prod.mk.injEq] at h; obtain ⟨rfl, rfl⟩ := h
      have hx := hg x
      unfold nilCheckS at hb
      split at hb <;> first | (simp at hb; done) | skip
      all_goals
        rename_i heq
        simp only [Option.some.injEq] at hb; subst hb
        refine ⟨e x, hx, fun w => ?_⟩
        rw [heq] at hx
        simp only [SV.rel] at hx
        first
          | (obtain ⟨_, _, hx⟩ := hx; simp [execOp, hx]; done)
          | (obtain ⟨_, _, _, _, _, _, hx⟩ := hx; simp [execOp, hx]; done)
          | (simp [execOp, hx]; done)
  case h_16 x xt asserted ok =>
    cases hb : assertS P asserted ok (stripC path (ev x)) with
    | none => simp [hb] at h
    | some s' =>
      simp only [hb, Option.map_some, Option.some.injEq, Prod.mk.injEq] at h; obtain ⟨rfl, rfl⟩ := h
      obtain ⟨v, hv, hr⟩ := run_assertS hb (hg x) xt
      exact ⟨v, hv, fun w => by simp [execOp, hr]⟩
  case h_17 b args argTypes =>
    cases hb : builtinS P b argTypes (args.toList.map fun x => stripC path (ev x)) with
    | none => simp [hb] at h
    | some s' =>
      simp only [hb, Option.map_some, Option.some.injEq, Prod.mk.injEq] at h; obtain ⟨rfl, rfl⟩ := h
      obtain ⟨v, hv, hr⟩ := run_builtinS hb (vs := args.map e) (by simpa using RelL.map hg args.toList) type (args.map fun | .const _ => true | _ => false)
      exact ⟨v, hv, fun w => by simp only [execOp, resolve, Sem.run_bind, Sem.run_pure, Result.andThen_ok, invoke]; exact hr w⟩
  case h_18 => simp at h
end Go.Sx
