/- Operations that look at no memory, on values that are known in part. -/
import Derived.Test.YtpamdmikdnoplaaSxA
import Derived.Laws.StructEq
import Derived.ChangeKeysEq
import Derived.Deep.MidRow
namespace Go.Sx
set_option linter.unusedVariables false

def Env.Path (ρ : Env) (path : List E) : Prop := ∀ e ∈ path, e.denB ρ = true
theorem Env.Path.cons {ρ : Env} {path : List E} (h : ρ.Path path) {e : E} (he : e.denB ρ = true) : ρ.Path (e :: path) := by
  intro x hx; rcases List.mem_cons.1 hx with rfl | hx
  · exact he
  · exact h _ hx

theorem Env.Path.assumeT {ρ : Env} {path : List E} (h : ρ.Path path) {e : E} (he : e.denB ρ = true) : ρ.Path (assumeT e path) := by
  intro x hx; rcases List.mem_append.1 hx with hx | hx
  · exact (E.holds_both ρ e).1 he x hx
  · exact h _ hx
theorem Env.Path.assumeF {ρ : Env} {path : List E} (h : ρ.Path path) {e : E} (he : e.denB ρ = false) : ρ.Path (assumeF e path) := by
  intro x hx; rcases List.mem_append.1 hx with hx | hx
  · exact (E.holds_both ρ e).2 he x hx
  · exact h _ hx

def stripC (path : List E) : SV → SV
  | .cond g v => match decideE path g with
    | some true => v
    | some false => .tup .nil
    | none => .cond g v
  | v => v
theorem stripC_rel {ρ : Env} {β : List Nat} {path : List E} (hp : ρ.Path path) {s : SV} {v : Value} (h : s.rel ρ β v) : (stripC path s).rel ρ β v := by
  unfold stripC; split
  · rename_i g x
    split
    · rename_i hd; have := decideE_sound hp hd; simp only [SV.rel] at h; exact h.1 this
    · rename_i hd; have := decideE_sound hp hd; simp only [SV.rel] at h; rw [h.2 this]; simp [SV.rel, SV.relS, undef]
    · exact h
  · exact h

def pickV (e : E) (a b : SV) : Option SV :=
  match a, b with
  | .bool x, .bool y => some (.bool (.mkIteB e x y))
  | .int k x, .int k' y => if k = k' then some (.int k (.mkIte e x y)) else none
  | a, b => if a = b then some a else none
theorem pickV_rel {ρ : Env} {β : List Nat} {e : E} {a b s : SV} (hs : pickV e a b = some s) {v : Value}
    (h1 : e.denB ρ = true → a.rel ρ β v) (h2 : e.denB ρ = false → b.rel ρ β v) : s.rel ρ β v := by
  unfold pickV at hs
  split at hs
  · simp only [Option.some.injEq] at hs; subst hs
    simp only [SV.rel, E.denB_mkIteB] at *
    cases h : e.denB ρ
    · simpa using h2 h
    · simpa using h1 h
  · split at hs
    · rename_i hk; subst hk; simp only [Option.some.injEq] at hs; subst hs
      simp only [SV.rel, E.den_mkIte] at *
      cases h : e.denB ρ
      · simpa using h2 h
      · simpa using h1 h
    · simp at hs
  · split at hs
    · rename_i hk; subst hk; simp only [Option.some.injEq] at hs; subst hs
      cases h : e.denB ρ
      · exact h2 h
      · exact h1 h
    · simp at hs

/-- A value of one cell, surely. -/
def isCell : SV → Bool
  | .int .. | .bool .. | .ptr .. | .pnil | .fn .. | .nilfn | .map .. | .mapnil | .slc .. | .snil | .ifc .. | .nilif | .val .. | .str .. => true
  | _ => false
def scells : SV → Option (List SV)
  | .agg l => if l.toL.all isCell then some l.toL else none
  | s => if isCell s then some [s] else none
theorem isCell_one {ρ : Env} {β : List Nat} {s : SV} (h : isCell s = true) {v : Value} (hv : s.rel ρ β v) : v.oneCell' = true ∧ v.cells = #[v] := by
  cases s <;> simp [isCell] at h <;> simp only [SV.rel] at hv
  case int => subst hv; exact ⟨rfl, rfl⟩
  case bool => subst hv; exact ⟨rfl, rfl⟩
  case ptr => obtain ⟨b, _, rfl⟩ := hv; exact ⟨rfl, rfl⟩
  case pnil => subst hv; exact ⟨rfl, rfl⟩
  case fn => obtain ⟨b, _, rfl⟩ := hv; exact ⟨rfl, rfl⟩
  case nilfn => subst hv; exact ⟨rfl, rfl⟩
  case map => obtain ⟨b, _, rfl⟩ := hv; exact ⟨rfl, rfl⟩
  case mapnil => subst hv; exact ⟨rfl, rfl⟩
  case slc => obtain ⟨b, _, n, c, _, _, rfl⟩ := hv; exact ⟨rfl, rfl⟩
  case snil => subst hv; exact ⟨rfl, rfl⟩
  case ifc => obtain ⟨b, _, rfl⟩ := hv; exact ⟨rfl, rfl⟩
  case nilif => subst hv; exact ⟨rfl, rfl⟩
  case str l => subst hv; exact ⟨rfl, rfl⟩
  case val i =>
    subst hv
    have := ρ.vc i
    refine ⟨this, ?_⟩
    revert this
    cases ρ.v i <;> simp [Value.oneCell', Value.cells]
theorem cells_one {ρ : Env} {β : List Nat} : ∀ {l : List SV} {vs : List Value}, RelL ρ β l vs → l.all isCell = true → ∀ v ∈ vs, v.oneCell' = true
  | [], vs, h, _ => by simp [RelL] at h; simp [h]
  | a :: l, vs, h, ha => by
    obtain ⟨v, r, rfl, h1, h2⟩ := h
    simp only [List.all_cons, Bool.and_eq_true] at ha
    intro x hx
    rcases List.mem_cons.1 hx with rfl | hx
    · exact (isCell_one ha.1 h1).1
    · exact cells_one h2 ha.2 x hx
theorem scells_rel {ρ : Env} {β : List Nat} {s : SV} {l : List SV} (h : scells s = some l) {v : Value} (hv : s.rel ρ β v) :
    RelL ρ β l v.cells.toList ∧ ∀ x ∈ v.cells.toList, x.oneCell' = true := by
  unfold scells at h
  split at h
  · rename_i l'
    split at h
    · rename_i hc; simp only [Option.some.injEq] at h; subst h
      simp only [SV.rel] at hv
      obtain ⟨vs, h1, rfl⟩ := hv
      have := relS_toL h1
      exact ⟨by simpa [Value.cells] using this, by simpa [Value.cells] using cells_one this hc⟩
    · simp at h
  · split at h
    · rename_i hc; simp only [Option.some.injEq] at h; subst h
      obtain ⟨h1, h2⟩ := isCell_one hc hv
      rw [h2]
      exact ⟨⟨v, [], rfl, hv, rfl⟩, by simpa using h1⟩
    · simp at h

def splice {α : Type} (l : List α) (off : Nat) (new : List α) : List α := l.take off ++ (new ++ l.drop (off + new.length))
theorem splice_length {α : Type} {l : List α} {off : Nat} {new : List α} (h : off + new.length ≤ l.length) : (splice l off new).length = l.length := by
  simp [splice]; omega
theorem RelL.splice {ρ : Env} {β : List Nat} {l : List SV} {vs : List Value} (h : RelL ρ β l vs) (off : Nat) {n : List SV} {ns : List Value} (hn : RelL ρ β n ns) :
    RelL ρ β (Sx.splice l off n) (Sx.splice vs off ns) := by
  unfold Sx.splice
  rw [hn.length]
  exact (h.take off).append (hn.append (h.drop _))
theorem splice_nil {α : Type} (l : List α) (off : Nat) : splice l off [] = l := by simp [splice]
theorem splice_cons {α : Type} {l : List α} {off : Nat} {a : α} {new : List α} (h : off < l.length) : splice (l.set off a) (off + 1) new = splice l off (a :: new) := by
  unfold splice
  rw [List.take_set, List.drop_set_of_lt (by omega)]
  have : (List.take (off + 1) l).set off a = List.take off l ++ [a] := by
    rw [List.take_succ_eq_append_getElem h, List.set_append_right _ _ (by simp; omega)]
    simp [Nat.min_eq_left (Nat.le_of_lt h)]
  rw [this]
  simp [Nat.add_assoc, Nat.add_comm 1]

/-- The model's own filling of a place, cell by cell. -/
theorem foldl_splice (off : Nat) : ∀ (vs : List Value) (j : Nat) (cs : Array Value), off + j + vs.length ≤ cs.size →
    (vs.zipIdx j).foldl (fun cs (x : Value × Nat) => cs.setIfInBounds (off + x.2) x.1) cs = (splice cs.toList (off + j) vs).toArray
  | [], j, cs, _ => by simp [splice_nil]
  | v :: vs, j, cs, h => by
    simp only [List.length_cons] at h
    rw [List.zipIdx_cons, List.foldl_cons, foldl_splice off vs (j + 1) _ (by simp; omega)]
    simp only [Array.toList_setIfInBounds]
    rw [← Nat.add_assoc, splice_cons (by simp; omega)]

def fillS (place : Nat → Option (Nat × Nat)) : List SV → List (Nat × SV) → Option (List SV)
  | cells, [] => some cells
  | cells, (i, s) :: rest =>
    match place i, scells s with
    | some (off, size), some l => if l.length ≠ size ∨ off + l.length > cells.length then none else fillS place (splice cells off l) rest
    | _, _ => none
def RelP (ρ : Env) (β : List Nat) : List (Nat × SV) → List (Nat × Value) → Prop
  | [], vs => vs = []
  | (i, s) :: l, vs => ∃ v r, vs = (i, v) :: r ∧ s.rel ρ β v ∧ RelP ρ β l r
theorem RelP.map {ρ : Env} {β : List Nat} {ev : Operand → SV} {e : Operand → Value} (h : ∀ x, (ev x).rel ρ β (e x)) :
    ∀ (l : List (Nat × Operand)), RelP ρ β (l.map fun (i, x) => (i, ev x)) (l.map fun (i, x) => (i, e x))
  | [] => rfl
  | (i, x) :: l => ⟨e x, _, rfl, h x, RelP.map h l⟩
theorem fillS_rel {ρ : Env} {β : List Nat} {place : Nat → Option (Nat × Nat)} : ∀ {parts : List (Nat × SV)} {vparts : List (Nat × Value)}, RelP ρ β parts vparts →
    ∀ {cells : List SV} {vs : Array Value} {out : List SV}, RelL ρ β cells vs.toList → fillS place cells parts = some out →
    ∃ vo, Instr.fill place vs vparts = some vo ∧ RelL ρ β out vo.toList
  | [], vparts, h, cells, vs, out, hc, ho => by
    simp [RelP] at h; subst h
    simp [fillS] at ho; subst ho
    exact ⟨vs, by simp [Instr.fill], hc⟩
  | (i, s) :: parts, vparts, h, cells, vs, out, hc, ho => by
    obtain ⟨v, r, rfl, h1, h2⟩ := h
    simp only [fillS] at ho
    split at ho
    · rename_i off size l hp hl
      split at ho
      · simp at ho
      · rename_i hn
        obtain ⟨hr, _⟩ := scells_rel hl h1
        have hlen : l.length = v.cells.size := by simpa using hr.length
        have hcl : cells.length = vs.size := by simpa using hc.length
        have hn1 : v.cells.size = size := by omega
        have hn2 : off + v.cells.size ≤ vs.size := by omega
        simp only [Instr.fill, hp]
        rw [if_neg (by simp [hn1]; omega)]
        have hf := foldl_splice off v.cells.toList 0 vs (by simpa using hn2)
        have : (v.cells.zipIdx.foldl (fun cs (x : Value × Nat) => cs.setIfInBounds (off + x.2) x.1) vs) = (splice vs.toList off v.cells.toList).toArray := by
          rw [← Array.foldl_toList, Array.toList_zipIdx]; simpa using hf
        rw [this]
        exact fillS_rel h2 (by simpa using hc.splice off hr) ho
    · simp at ho

/-- Where the parts of a literal go. -/
def placesOf (P : Program) (t : TypeId) : Option (Nat → Option (Nat × Nat)) :=
  match P.underlying t with
  | some (.struct fields) => if (fields.toList.all fun f => (P.info? f.type).isSome) then some fun i => (fields[i]?).map fun f => (f.offset, P.cellsOf f.type) else none
  | some (.array _ elem) => if (P.info? elem).isSome then some fun i => some (i * P.cellsOf elem, P.cellsOf elem) else none
  | _ => none

def zeroS (P : Program) (t : TypeId) : Option SV := ((P.info? t).bind (·.zero)).map ofZero
theorem run_zeroS {P : Program} {t : TypeId} {s : SV} (h : zeroS P t = some s) (ρ : Env) (β : List Nat) : ∃ v, s.rel ρ β v ∧ ∀ w, (zeroValue t).run P w = .ok v w := by
  unfold zeroS at h
  cases hi : P.info? t with
  | none => simp [hi] at h
  | some i =>
    cases hz : i.zero with
    | none => simp [hi, hz] at h
    | some z =>
      simp [hi, hz] at h
      subst h
      exact ⟨z, ofZero_rel ρ β z, fun w => by simp [zeroValue, typeInfo, hi, hz]⟩
theorem run_sizeOf' {P : Program} {t : TypeId} (h : (P.info? t).isSome = true) (w : World) : (sizeOf t).run P w = .ok (P.cellsOf t) w := by
  obtain ⟨i, hi⟩ := Option.isSome_iff_exists.1 h
  simp [sizeOf, typeInfo, hi, Program.cellsOf]

theorem run_places {P : Program} : ∀ (fs : List Field) (w : World), (∀ f ∈ fs, (P.info? f.type).isSome = true) →
    (fs.mapM (fun f => (do pure (f.offset, ← sizeOf f.type) : Sem (Nat × Nat)))).run P w = .ok (fs.map fun f => (f.offset, P.cellsOf f.type)) w
  | [], w, _ => by simp
  | f :: fs, w, h => by
    have ih := run_places fs w (fun g hg => h g (by simp [hg]))
    simp only [List.mapM_cons, Sem.run_bind, run_sizeOf' (h f (by simp)), Result.andThen_ok, ih, List.map_cons, Sem.run_pure]

def buildS (P : Program) (t : TypeId) (parts : List (Nat × SV)) : Option SV :=
  match zeroS P t, placesOf P t with
  | some z, some pl => match scells z with
    | some cells => (fillS pl cells parts).map fun l => .agg (.ofL l)
    | none => none
  | _, _ => none
theorem run_buildS {P : Program} {t : TypeId} {parts : List (Nat × SV)} {s : SV} (h : buildS P t parts = some s) {ρ : Env} {β : List Nat} {vparts : Array (Nat × Value)}
    (hp : RelP ρ β parts vparts.toList) : ∃ v, s.rel ρ β v ∧ ∀ w, (Instr.build t vparts).run P w = .ok v w := by
  unfold buildS at h
  split at h
  · rename_i z pl hz hpl
    split at h
    · rename_i cells hc
      obtain ⟨zv, hzr, hzrun⟩ := run_zeroS hz ρ β
      obtain ⟨hcr, _⟩ := scells_rel hc hzr
      cases hf : fillS pl cells parts with
      | none => simp [hf] at h
      | some out =>
        simp only [hf, Option.map_some, Option.some.injEq] at h
        subst h
        obtain ⟨vo, hvo, hro⟩ := fillS_rel hp hcr hf
        refine ⟨.agg vo, ⟨vo.toList, relS_ofL hro, by simp⟩, fun w => ?_⟩
        unfold placesOf at hpl
        cases hu : P.underlying t with
        | none => simp [hu] at hpl
        | some d =>
          cases d <;> simp [hu] at hpl
          case struct fields =>
            obtain ⟨ha, rfl⟩ := hpl
            have hpm := run_places (P := P) fields.toList w (fun f hf => by
              obtain ⟨i, hi, rfl⟩ := List.getElem_of_mem hf
              simpa using ha i (by simpa using hi))
            have e : (fields.mapM (fun f => (do pure (f.offset, ← sizeOf f.type) : Sem (Nat × Nat)))).run P w = .ok (fields.map fun f => (f.offset, P.cellsOf f.type)) w := by
              rw [← Array.toArray_toList (xs := fields), List.mapM_toArray, Sem.run_map, hpm]
              rw [Result.andThen_ok, List.map_toArray]
            simp only [Instr.build, Sem.run_bind, hzrun, Result.andThen_ok, run_underlying hu, e]
            have e2 : (fun (i : Nat) => ((fields.map fun (f : Field) => (f.offset, P.cellsOf f.type)))[i]?) = fun i => (fields[i]?).map fun f => (f.offset, P.cellsOf f.type) := by
              funext i; simp
            rw [e2, hvo]
            rfl
          case array n elem =>
            obtain ⟨ha, rfl⟩ := hpl
            simp only [Instr.build, Sem.run_bind, hzrun, Result.andThen_ok, run_underlying hu, run_sizeOf' ha, hvo]
            rfl
    · simp at h
  · simp at h
end Go.Sx
