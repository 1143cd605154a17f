/- Code, run on what is known in part: the model's runs come to a leaf of the tree. -/
import Derived.Test.YtpamdmikdnoplaaSxH
import Derived.Test.YtpamdmikdnoplaaSxW
namespace Go.Sx
set_option linter.unusedVariables false
variable {P : Program} {ρ : Env} {w0 : World} {own : Own}

def XRel (ρ : Env) (β : List Nat) : X → Exit → Prop
  | .normal, e => e = .normal
  | .exit id, e => e = .exit id
  | .goto l, e => e = .goto l
  | .ret, e => e = .ret
  | .panic s, e => ∃ v, s.rel ρ β v ∧ e = .panic [{ v, recovered := false }]
def OutRel (ρ : Env) (β : List Nat) : Out → Ending → Prop
  | .ret s, e => ∃ v, s.rel ρ β v ∧ e = .returned v
  | .pan s, e => ∃ v, s.rel ρ β v ∧ e = .panicked [{ v, recovered := false }]

/-- What a leaf must give. -/
def LQ (ρ : Env) (w0 : World) (own : Own) (β0 : List Nat) (Q : Exit → Act → World → Prop) : X × St → Prop :=
  fun xs => ∀ β a w, β0 <+: β → Rel ρ w0 own xs.2 β a w → ∀ e, XRel ρ β xs.1 e → Q e a w
theorem LQ.mono {β0 β1 : List Nat} (hb : β0 <+: β1) {Q : Exit → Act → World → Prop} {xs : X × St} (h : LQ ρ w0 own β0 Q xs) : LQ ρ w0 own β1 Q xs :=
  fun β a w h1 R e he => h β a w (hb.trans h1) R e he

/-- A call that went so. -/
def CallPost (ρ : Env) (w0 : World) (own : Own) (β : List Nat) (L : Out × List SO × List E → Prop) (e : Ending) (w' : World) : Prop :=
  ∃ out h' p' β', L (out, h', p') ∧ β <+: β' ∧ HRel ρ w0 own h' β' w' ∧ ρ.Path p' ∧ OutRel ρ β' out e
def CtrOk (P : Program) (ρ : Env) (w0 : World) (own : Own) (f : FuncId) (c : List SV → List SO → List E → Tree (Out × List SO × List E)) : Prop :=
  ∀ args h p (L : Out × List SO × List E → Prop), (c args h p).Sat ρ L → ∀ β w vals, HRel ρ w0 own h β w → ρ.Path p → RelL ρ β args vals.toList →
    Calls P f vals w (CallPost ρ w0 own β L)
def CallOk (P : Program) (ρ : Env) (w0 : World) (own : Own) (K : CallK) : Prop := ∀ f, CtrOk P ρ w0 own f (K f)

theorem Rel.put {st : St} {β : List Nat} {a : Act} {w : World} (R : Rel ρ w0 own st β a w) (dst : Option Tmp) {s : SV} {v : Value} (h : s.rel ρ β v) : Rel ρ w0 own (st.put dst s) β (a.put dst v) w := by
  cases dst with
  | none => exact R
  | some d => exact ⟨R.tm.set h, R.df, R.hp, R.pa⟩
theorem Rel.heap {st : St} {β β' : List Nat} {a : Act} {w w' : World} (R : Rel ρ w0 own st β a w) (hb : β <+: β') {h : List SO} (H : HRel ρ w0 own h β' w') {p : List E} (hp : ρ.Path p) :
    Rel ρ w0 own { st with heap := h, path := p } β' a w' := ⟨R.tm.mono hb, R.df.mono hb, H, hp⟩
theorem Rel.onPath {st : St} {β : List Nat} {a : Act} {w : World} (R : Rel ρ w0 own st β a w) {p : List E} (hp : ρ.Path p) : Rel ρ w0 own { st with path := p } β a w := ⟨R.tm, R.df, R.hp, hp⟩
theorem Rel.defer {st : St} {β : List Nat} {a : Act} {w : World} (R : Rel ρ w0 own st β a w) {f : FuncId} {args caps : List SV} {va vc : Array Value} (h1 : RelL ρ β args va.toList) (h2 : RelL ρ β caps vc.toList) :
    Rel ρ w0 own { st with defers := (f, args, caps) :: st.defers } β { a with defers := { target := .fn (.func f) vc, args := va } :: a.defers } w :=
  ⟨R.tm, ⟨va, vc, a.defers, rfl, h1, h2, R.df⟩, R.hp, R.pa⟩
theorem undef_rel (β : List Nat) : (SV.tup .nil).rel ρ β undef := ⟨[], rfl, rfl⟩

theorem unfilter {path : List E} (hp : ρ.Path path) {ns : List E} (h : ∀ e ∈ ns.filter (fun n => decideE path n != some true), e.denB ρ = true) : ∀ e ∈ ns, e.denB ρ = true := fun e he => by
  by_cases hd : decideE path e = some true
  · exact decideE_sound hp hd
  · exact h e (List.mem_filter.2 ⟨he, by simpa using hd⟩)
theorem splitT_sat {α : Type} {e : E} {st : St} {f : St → Tree α} {L : α → Prop} : ∀ (l : List Int), (splitT e st f l).Sat ρ L → ∃ g : E, g.denB ρ = true ∧ (f { st with path := assumeT g st.path }).Sat ρ L
  | [], h => h.elim
  | k :: ks, h => by
    simp only [splitT, Tree.Sat] at h
    by_cases hg : (E.eq e (.lit k)).denB ρ = true
    · exact ⟨_, hg, h.1 hg⟩
    · exact splitT_sat ks (h.2 (by simpa using hg))
theorem runOp0_sound {K : CallK} (hK : CallOk P ρ w0 own K) {o : Oper} {st : St} {β : List Nat} {a : Act} {w : World} (R : Rel ρ w0 own st β a w)
    {next : Act → World → Prop} {Q : Exit → Act → World → Prop} (h : (runOp0 P K o st).Sat ρ (LQ ρ w0 own β (Exit.then next Q))) : o.wp P a w next Q := by
  unfold runOp0 at h
  split at h
  · rename_i ns s hs
    obtain ⟨hn, hl⟩ := Tree.sat_needs h
    obtain ⟨v, hv, hrun⟩ := evPure_sound R.pa R.ev hs (unfilter R.pa hn)
    unfold Oper.wp
    rw [hrun w]
    exact hl β _ w (List.prefix_refl _) (R.put o.dst hv) .normal rfl
  · have hm := evMem_sound (P := P) R o
    unfold Oper.wp
    split at h
    · rename_i s hp he
      rw [he] at hm
      obtain ⟨v, w', β', hr, hb, hv, H⟩ := hm
      rw [hr]
      exact h β' _ w' hb ((R.heap hb H R.pa).put o.dst hv) .normal rfl
    · rename_i hp he
      rw [he] at hm
      obtain ⟨w', β', hr, hb, H⟩ := hm
      rw [hr]
      exact h β' _ w' hb ((R.heap hb H R.pa).put o.dst (undef_rel β')) .normal rfl
    · rename_i f args he
      rw [he] at hm
      obtain ⟨vs, hr, hargs⟩ := hm
      rw [hr]
      have h := Tree.sat_bind h
      show Calls P f vs w _
      refine (hK f args st.heap st.path _ h β w vs R.hp R.pa hargs).mono fun e w' hpost => ?_
      obtain ⟨out, h', p', β', hL, hb, H, hp', ho⟩ := hpost
      cases out with
      | ret s =>
        obtain ⟨v, hv, rfl⟩ := ho
        exact hL β' _ w' hb ((R.heap hb H hp').put o.dst hv) .normal rfl
      | pan s =>
        obtain ⟨v, hv, rfl⟩ := ho
        exact hL β' _ w' hb (R.heap hb H hp') _ ⟨v, hv, rfl⟩
    · rename_i f args caps he
      rw [he] at hm
      obtain ⟨va, vc, hr, h1, h2⟩ := hm
      rw [hr]
      refine h β _ w (List.prefix_refl _) ((R.defer h1 h2).put o.dst (undef_rel β)) .normal rfl
    · rename_i s he
      rw [he] at hm
      obtain ⟨v, hr, hv⟩ := hm
      rw [hr]
      exact h β _ w (List.prefix_refl _) R _ ⟨v, hv, rfl⟩
    · exact h.elim
theorem runOp_sound {K : CallK} (hK : CallOk P ρ w0 own K) {o : Oper} {st : St} {β : List Nat} {a : Act} {w : World} (R : Rel ρ w0 own st β a w)
    {next : Act → World → Prop} {Q : Exit → Act → World → Prop} (h : (runOp P K o st).Sat ρ (LQ ρ w0 own β (Exit.then next Q))) : o.wp P a w next Q := by
  unfold runOp at h
  split at h
  · rename_i e l _
    obtain ⟨g, hg, h⟩ := splitT_sat (ρ := ρ) l h
    exact runOp0_sound hK (R.onPath (R.pa.assumeT hg)) h
  · exact runOp0_sound hK R h

theorem guardE_sound {ops : Array Oper} {st : St} {β : List Nat} {a : Act} {w : World} (R : Rel ρ w0 own st β a w) {o : Oper} {j : Nat} {want : Bool} (ho : o.guard = some (j, want)) {g : E} (hg : guardE ops st j want = some g) :
    Region.wanted o (yielded ops a.tmps) = g.denB ρ := by
  unfold Region.wanted yielded
  rw [ho]
  unfold guardE at hg
  cases hd : (ops[j]?).bind (·.dst) with
  | none => rw [hd] at hg; simp only [Option.some.injEq] at hg; subst hg; simp [hd, ff, E.denB]
  | some d =>
    simp only [hd] at hg
    split at hg
    · rename_i hlt
      have hlt : d < a.tmps.size := by rw [R.tm.size]; exact Nat.le_of_ble_eq_true hlt
      have hv : a.tmps[d]? = some a.tmps[d] := Array.getElem?_eq_getElem hlt
      have hr := R.tm.get d _ hv
      generalize a.tmps[d] = v at *
      simp only [hd, Option.bind_some, hv]
      generalize st.tmps.get d = s at *
      cases s <;> (try simp at hg)
      case bool e =>
        subst hg
        simp only [SV.rel] at hr; subst hr
        cases want <;> simp
      case cond g' x =>
        cases x <;> simp at hg
        rename_i e
        subst hg
        simp only [SV.rel] at hr
        rw [E.denB_mkAnd]
        cases hgg : g'.denB ρ
        · rw [hr.2 hgg]; simp [undef]
        · rw [hr.1 hgg]; cases want <;> simp
      case tup l =>
        subst hg
        simp only [SV.rel] at hr
        obtain ⟨vs, _, rfl⟩ := hr
        simp [ff, E.denB]
    · simp at hg

theorem evRead_sound {st : St} {β : List Nat} {a : Act} {w : World} (R : Rel ρ w0 own st β a w) {path : List E} (hp : ρ.Path path) {o : Oper} {ns : List E} {s : SV} (h : evRead P st path o.op = some (ns, s))
    (hn : ∀ n ∈ ns, n.denB ρ = true) : ∃ v, s.rel ρ β v ∧ (execOp a.eval o).run P w = .ok (.value v) w := by
  unfold evRead at h
  split at h
  · rename_i r hr
    simp only [Option.some.injEq] at h; subst h
    obtain ⟨v, hv, hrun⟩ := evPure_sound hp R.ev hr hn
    exact ⟨v, hv, hrun w⟩
  · obtain ⟨dst, op, type, pos, after, guard⟩ := o
    simp only at h
    split at h
    · rename_i t x _
      cases hl : loadS P t st.heap (stripC path (st.ev x)) with
      | none => simp [hl] at h
      | some s' =>
        simp only [hl, Option.map_some, Option.some.injEq, Prod.mk.injEq] at h
        obtain ⟨rfl, rfl⟩ := h
        obtain ⟨u, h1, h2⟩ := run_loadS hl R.hp (stripC_rel hp (R.ev x))
        exact ⟨u, h1, by simp [execOp, h2]⟩
    · simp at h

theorem stepOp_sound {K : CallK} (hK : CallOk P ρ w0 own K) {ops : Array Oper} {i : Nat} {o : Oper} (hi : ops[i]? = some o) {st : St} {β : List Nat} {a : Act} {w : World} (R : Rel ρ w0 own st β a w)
    {next : Act → World → Prop} {Q : Exit → Act → World → Prop} (h : (stepOp P K ops o st).Sat ρ (LQ ρ w0 own β (Exit.then next Q))) : wpOp P ops Q i next a w := by
  unfold wpOp
  simp only [hi]
  unfold stepOp at h
  split at h
  · rename_i hg
    rw [if_pos (by simp [Region.wanted, hg])]
    exact .inl (runOp_sound hK R h)
  · rename_i j want hg
    split at h
    · exact h.elim
    · rename_i g hge
      have hw := guardE_sound R hg hge
      rw [hw]
      split at h
      · rename_i hd
        rw [if_pos (decideE_sound R.pa hd)]
        exact .inl (runOp_sound hK R h)
      · rename_i hd
        rw [if_neg (by rw [decideE_sound R.pa hd]; simp)]
        exact h β _ w (List.prefix_refl _) (R.put o.dst (undef_rel β)) .normal rfl
      · split at h
        · rename_i ns s hs
          obtain ⟨hn, hl⟩ := Tree.sat_needs h
          by_cases hgt : g.denB ρ = true
          · rw [if_pos hgt]
            obtain ⟨v, hv, hrun⟩ := evRead_sound R (R.pa.assumeT hgt) hs (unfilter (R.pa.assumeT hgt) fun n hn' => by
              have := hn _ (List.mem_map.2 ⟨n, hn', rfl⟩)
              simpa [E.denB, hgt] using this)
            left
            unfold Oper.wp
            rw [hrun]
            exact hl β _ w (List.prefix_refl _) (R.put o.dst (by simp only [SV.rel]; exact ⟨fun _ => hv, fun h => by rw [hgt] at h; simp at h⟩)) .normal rfl
          · rw [if_neg hgt]
            exact hl β _ w (List.prefix_refl _) (R.put o.dst (by simp only [SV.rel]; exact ⟨fun h => absurd h hgt, fun _ => trivial⟩)) .normal rfl
        · by_cases hgt : g.denB ρ = true
          · rw [if_pos hgt]
            exact .inl (runOp_sound hK (R.onPath (R.pa.assumeT hgt)) (h.1 hgt))
          · rw [if_neg hgt]
            have hgf : g.denB ρ = false := by simpa using hgt
            exact h.2 hgf β _ w (List.prefix_refl _) ((R.onPath (R.pa.assumeF hgf)).put o.dst (undef_rel β)) .normal rfl

theorem evOps_sound {K : CallK} (hK : CallOk P ρ w0 own K) {ops : Array Oper} {Q : Exit → Act → World → Prop} : ∀ (l : List Nat) {st : St} {β : List Nat} {a : Act} {w : World}, Rel ρ w0 own st β a w →
    (evOps P K ops l st).Sat ρ (LQ ρ w0 own β Q) → wpOps P ops Q l a w
  | [], st, β, a, w, R, h => h β a w (List.prefix_refl _) R .normal rfl
  | i :: rest, st, β, a, w, R, h => by
    rw [wpOps_cons]
    simp only [evOps] at h
    cases ho : ops[i]? with
    | none =>
      rw [ho] at h
      simp only [wpOp, ho]
      exact evOps_sound hK rest R h
    | some o =>
      rw [ho] at h
      refine stepOp_sound hK ho R ((Tree.sat_bind h).mono fun xs hxs => ?_)
      obtain ⟨x, st'⟩ := xs
      intro β' a' w' hb R' e he
      cases x with
      | normal =>
        simp only [XRel] at he; subst he
        exact evOps_sound hK rest R' (hxs.mono fun _ hl => hl.mono hb)
      | exit id => simp only [XRel] at he; subst he; exact hxs β' a' w' hb R' _ rfl
      | goto l => simp only [XRel] at he; subst he; exact hxs β' a' w' hb R' _ rfl
      | ret => simp only [XRel] at he; subst he; exact hxs β' a' w' hb R' _ rfl
      | panic s =>
        obtain ⟨v, hv, rfl⟩ := he
        exact hxs β' a' w' hb R' _ ⟨v, hv, rfl⟩

/-- What a way by panic asks hangs on no temporaries but those that are named. -/
def PanicOk (S : List Tmp) (Q : Exit → Act → World → Prop) : Prop := ∀ c a a' w, a.defers = a'.defers → (∀ t ∈ S, a.tmps.getD t undef = a'.tmps.getD t undef) → Q (.panic c) a w → Q (.panic c) a' w

/- What is forgotten, and how the rest is numbered. -/
theorem indexIn_get {i j : Nat} : ∀ {l : List Nat}, indexIn i l = some j → l[j]? = some i
  | [], h => by simp [indexIn] at h
  | k :: l, h => by
    simp only [indexIn] at h
    split at h
    · rename_i hk; simp only [Option.some.injEq] at h; subst h hk; rfl
    · cases hl : indexIn i l with
      | none => simp [hl] at h
      | some m => simp [hl] at h; subst h; simpa using indexIn_get hl
/-- The blocks by their new numbers. -/
def Renames (f : Nat → Option Nat) (β β' : List Nat) : Prop := ∀ i j, f i = some j → ∀ b, β[i]? = some b → β'[j]? = some b
theorem ren_both {f : Nat → Option Nat} {β β' : List Nat} (hf : Renames f β β') (s : SV) : ∀ s', s.ren f = some s' → (∀ v, s.rel ρ β v → s'.rel ρ β' v) ∧ (∀ vs, s.relS ρ β vs → s'.relS ρ β' vs) := by
  induction s with
  | ptr i o =>
    intro s' h
    simp only [SV.ren, Option.map_eq_some_iff] at h
    obtain ⟨j, hj, rfl⟩ := h
    refine ⟨fun v h' => ?_, by simp [SV.relS]⟩
    simp only [SV.rel] at *
    obtain ⟨b, h1, h2⟩ := h'; exact ⟨b, hf i j hj b h1, h2⟩
  | map i =>
    intro s' h
    simp only [SV.ren, Option.map_eq_some_iff] at h
    obtain ⟨j, hj, rfl⟩ := h
    refine ⟨fun v h' => ?_, by simp [SV.relS]⟩
    simp only [SV.rel] at *
    obtain ⟨b, h1, h2⟩ := h'; exact ⟨b, hf i j hj b h1, h2⟩
  | slc i o n c =>
    intro s' h
    simp only [SV.ren, Option.map_eq_some_iff] at h
    obtain ⟨j, hj, rfl⟩ := h
    refine ⟨fun v h' => ?_, by simp [SV.relS]⟩
    simp only [SV.rel] at *
    obtain ⟨b, h1, h2⟩ := h'; exact ⟨b, hf i j hj b h1, h2⟩
  | fn g c ih =>
    intro s' h
    simp only [SV.ren, Option.map_eq_some_iff] at h
    obtain ⟨c', hc, rfl⟩ := h
    refine ⟨fun v h' => ?_, by simp [SV.relS]⟩
    simp only [SV.rel] at *
    obtain ⟨b, h1, h2⟩ := h'; exact ⟨b, (ih _ hc).2 _ h1, h2⟩
  | ifc t x ih =>
    intro s' h
    simp only [SV.ren, Option.map_eq_some_iff] at h
    obtain ⟨c', hc, rfl⟩ := h
    refine ⟨fun v h' => ?_, by simp [SV.relS]⟩
    simp only [SV.rel] at *
    obtain ⟨b, h1, h2⟩ := h'; exact ⟨b, (ih _ hc).1 _ h1, h2⟩
  | ptrx i base stride cnt e =>
    intro s' h
    simp only [SV.ren, Option.map_eq_some_iff] at h
    obtain ⟨j, hj, rfl⟩ := h
    refine ⟨fun v h' => ?_, by simp [SV.relS]⟩
    simp only [SV.rel] at *
    obtain ⟨b, h1, h2⟩ := h'; exact ⟨b, hf _ _ hj _ h1, h2⟩
  | agg l ih =>
    intro s' h
    simp only [SV.ren, Option.map_eq_some_iff] at h
    obtain ⟨c', hc, rfl⟩ := h
    refine ⟨fun v h' => ?_, by simp [SV.relS]⟩
    simp only [SV.rel] at *
    obtain ⟨b, h1, h2⟩ := h'; exact ⟨b, (ih _ hc).2 _ h1, h2⟩
  | tup l ih =>
    intro s' h
    simp only [SV.ren, Option.map_eq_some_iff] at h
    obtain ⟨c', hc, rfl⟩ := h
    refine ⟨fun v h' => ?_, by simp [SV.relS]⟩
    simp only [SV.rel] at *
    obtain ⟨b, h1, h2⟩ := h'; exact ⟨b, (ih _ hc).2 _ h1, h2⟩
  | cond g x ih =>
    intro s' h
    simp only [SV.ren, Option.map_eq_some_iff] at h
    obtain ⟨c', hc, rfl⟩ := h
    refine ⟨fun v h' => ?_, by simp [SV.relS]⟩
    simp only [SV.rel] at *
    exact ⟨fun hg => (ih _ hc).1 _ (h'.1 hg), h'.2⟩
  | cons a l iha ihl =>
    intro s' h
    simp only [SV.ren] at h
    split at h
    · rename_i a' l' ha hl
      simp only [Option.some.injEq] at h; subst h
      refine ⟨by simp [SV.rel], fun vs h' => ?_⟩
      simp only [SV.relS] at *
      obtain ⟨v, r, rfl, h1, h2⟩ := h'
      exact ⟨v, r, rfl, (iha _ ha).1 _ h1, (ihl _ hl).2 _ h2⟩
    · simp at h
  | _ =>
    intro s' h
    simp only [SV.ren, Option.some.injEq] at h; subst h
    simp [SV.rel, SV.relS]
theorem ren_rel {f : Nat → Option Nat} {β β' : List Nat} (hf : Renames f β β') {s s' : SV} (h : s.ren f = some s') {v : Value} (hv : s.rel ρ β v) : s'.rel ρ β' v := (ren_both hf s s' h).1 v hv
theorem renL_rel {f : Nat → Option Nat} {β β' : List Nat} (hf : Renames f β β') : ∀ {l l' : List SV}, renL f l = some l' → ∀ {vs : List Value}, RelL ρ β l vs → RelL ρ β' l' vs
  | [], l', h, vs, hv => by simp [renL] at h; subst h; exact hv
  | a :: l, l', h, vs, hv => by
    simp only [renL] at h
    split at h
    · rename_i a' r' ha hl
      simp only [Option.some.injEq] at h; subst h
      obtain ⟨v, r, rfl, h1, h2⟩ := hv
      exact ⟨v, r, rfl, ren_rel hf ha h1, renL_rel hf hl h2⟩
    · simp at h
theorem renM_rel {f : Nat → Option Nat} {β β' : List Nat} (hf : Renames f β β') : ∀ {l l' : List (SV × SV)}, renM f l = some l' → ∀ {vs : List MapEntry}, RelM ρ β l vs → RelM ρ β' l' vs
  | [], l', h, vs, hv => by simp [renM] at h; subst h; exact hv
  | (k, v) :: l, l', h, vs, hv => by
    simp only [renM] at h
    split at h
    · rename_i k' v' r' hk hv' hl
      simp only [Option.some.injEq] at h; subst h
      obtain ⟨e, r, rfl, h1, h2, h3⟩ := hv
      exact ⟨e, r, rfl, ren_rel hf hk h1, ren_rel hf hv' h2, renM_rel hf hl h3⟩
    · simp at h
theorem renD_rel {f : Nat → Option Nat} {β β' : List Nat} (hf : Renames f β β') : ∀ {l l' : List (FuncId × List SV × List SV)}, renD f l = some l' → ∀ {ds : List Deferred}, RelD ρ β l ds → RelD ρ β' l' ds
  | [], l', h, vs, hv => by simp [renD] at h; subst h; exact hv
  | (g, a, c) :: l, l', h, vs, hv => by
    simp only [renD] at h
    split at h
    · rename_i a' c' r' ha hc hl
      simp only [Option.some.injEq] at h; subst h
      obtain ⟨va, vc, r, rfl, h1, h2, h3⟩ := hv
      exact ⟨va, vc, r, rfl, renL_rel hf ha h1, renL_rel hf hc h2, renD_rel hf hl h3⟩
    · simp at h
theorem renT_rel {f : Nat → Option Nat} {β β' : List Nat} (hf : Renames f β β') {t : TT} {n : Nat} {tmps : Array Value} (h : TRel ρ β t n tmps) : TRel ρ β' (renT f t) n tmps := by
  refine ⟨h.size, fun i v hi => ?_⟩
  rcases TT.get_map (fun s => (s.ren f).getD .unk) t i with e | e
  · unfold renT
    rw [e]
    cases ha : (t.get i).ren f with
    | none => trivial
    | some a' => exact ren_rel hf ha (h.get i v hi)
  · unfold renT
    rw [e]; trivial
theorem renH_get {f : Nat → Option Nat} {h : List SO} : ∀ {sel : List Nat} {h' : List SO}, renH f h sel = some h' → h'.length = sel.length ∧ ∀ (j i : Nat), sel[j]? = some i → ∃ (o o' : SO), h[i]? = some o ∧ o.ren f = some o' ∧ h'[j]? = some o'
  | [], h', hr => by simp [renH] at hr; subst hr; simp
  | i :: sel, h', hr => by
    simp only [renH] at hr
    split at hr
    · rename_i o r ho hl
      simp only [Option.some.injEq] at hr; subst hr
      obtain ⟨h1, h2⟩ := renH_get hl
      refine ⟨by simp [h1], fun j i' hj => ?_⟩
      cases j with
      | zero =>
        simp at hj; subst hj
        cases hi : h[i]? with
        | none => simp [hi] at ho
        | some o1 => simp [hi] at ho; exact ⟨o1, o, rfl, ho, rfl⟩
      | succ j => simp at hj; obtain ⟨o1, o2, g1, g2, g3⟩ := h2 j i' hj; exact ⟨o1, o2, g1, g2, by simpa using g3⟩
    · simp at hr
theorem nodupB_sound : ∀ {l : List Nat}, nodupB l = true → l.Nodup
  | [], _ => List.nodup_nil
  | i :: l, h => by
    simp only [nodupB, Bool.and_eq_true, Bool.not_eq_true'] at h
    exact List.nodup_cons.2 ⟨by intro hc; have := List.contains_iff_mem.2 hc; rw [h.1] at this; simp at this, nodupB_sound h.2⟩
theorem selectS_sound {n0 : Nat} {roots : List Nat} {h h' : List SO} {sel : List Nat} (hs : selectS n0 roots h = some (sel, h')) {β0 β : List Nat} {w : World} (hn : n0 = β0.length) (hb : β0 <+: β) (H : HRel ρ w0 own h β w) :
    ∃ β', β0 <+: β' ∧ HRel ρ w0 own h' β' w ∧ Renames (indexIn · sel) β β' := by
  unfold selectS at hs
  simp only at hs
  split at hs
  · rename_i hnd
    cases hr : renH (indexIn · (List.range n0 ++ closeS n0 h 400 [] (roots ++ (h.take n0).flatMap SO.refs))) h (List.range n0 ++ closeS n0 h 400 [] (roots ++ (h.take n0).flatMap SO.refs)) with
    | none => rw [hr] at hs; simp at hs
    | some h1 =>
      rw [hr] at hs
      simp only [Option.map_some, Option.some.injEq, Prod.mk.injEq] at hs
      obtain ⟨hsel, rfl⟩ := hs
      rw [hsel] at hr hnd
      obtain ⟨hlen, hget⟩ := renH_get hr
      -- each kept number is one of the heap's
      have hlt : ∀ i ∈ sel, i < β.length := fun i hi => by
        obtain ⟨j, hj⟩ := List.mem_iff_getElem?.1 hi
        obtain ⟨o, o', h1, _, _⟩ := hget j i hj
        rw [H.len]; exact (List.getElem?_eq_some_iff.1 h1).1
      obtain ⟨β', hβd⟩ : ∃ β', β' = sel.map fun i => β.getD i 0 := ⟨_, rfl⟩
      have hβ' : ∀ j i, sel[j]? = some i → β'[j]? = β[i]? := fun j i hj => by
        have hi := hlt i (List.mem_of_getElem? hj)
        rw [hβd, List.getElem?_map, hj, Option.map_some, List.getD_eq_getElem?_getD, List.getElem?_eq_getElem hi, Option.getD_some]
      have hren : Renames (indexIn · sel) β β' := fun i j hj b hbi => by rw [hβ' j i (indexIn_get hj)]; exact hbi
      have hpre : β0 <+: β' := by
        refine ⟨(closeS n0 h 400 [] (roots ++ (h.take n0).flatMap SO.refs)).map fun i => β.getD i 0, ?_⟩
        rw [hβd, ← hsel, List.map_append]
        congr 1
        obtain ⟨t, rfl⟩ := hb
        subst hn
        apply List.ext_getElem?
        intro k
        by_cases hk : k < β0.length
        · simp [hk, List.getElem?_append_left]
        · simp [hk]
      refine ⟨β', hpre, ⟨by simp [hβd, hlen], ?_, ?_, ?_, ?_, ?_, H.fr⟩, hren⟩
      · have hndl := nodupB_sound hnd
        rw [hβd, List.nodup_iff_pairwise_ne, List.pairwise_map]
        refine List.Pairwise.imp_of_mem ?_ hndl
        intro a b ha hb' hne hc
        have h1 := hlt a ha; have h2 := hlt b hb'
        simp only [List.getD_eq_getElem?_getD, List.getElem?_eq_getElem h1, List.getElem?_eq_getElem h2, Option.getD_some] at hc
        exact hne ((List.getElem_inj H.nd).1 hc)
      · intro b hb'
        simp only [hβd, List.mem_map] at hb'
        obtain ⟨i, hi, rfl⟩ := hb'
        have := hlt i hi
        simp only [List.getD_eq_getElem?_getD, List.getElem?_eq_getElem this, Option.getD_some]
        exact H.lt _ (List.getElem_mem this)
      · intro j o b hj hbj
        have hjl : j < sel.length := by rw [← hlen]; exact (List.getElem?_eq_some_iff.1 hj).1
        have hsj : sel[j]? = some sel[j] := List.getElem?_eq_getElem hjl
        obtain ⟨o1, o2, g1, g2, g3⟩ := hget j _ hsj
        rw [hj] at g3; simp only [Option.some.injEq] at g3; subst g3
        rw [hβ' j _ hsj] at hbj
        have := H.holds _ o1 b g1 hbj
        cases o1 with
        | cells ro l t =>
          simp only [SO.ren, Option.map_eq_some_iff] at g2
          obtain ⟨l', hl', rfl⟩ := g2
          obtain ⟨vs, fz, e1, e2, e3⟩ := this
          exact ⟨vs, fz, renL_rel hren hl' e1, e2, e3⟩
        | map l =>
          simp only [SO.ren, Option.map_eq_some_iff] at g2
          obtain ⟨l', hl', rfl⟩ := g2
          obtain ⟨es, c, e1, e2⟩ := this
          exact ⟨es, c, renM_rel hren hl' e1, e2⟩
        | any => simp only [SO.ren, Option.some.injEq] at g2; subst g2; trivial
      · intro j o b hj hbj hm
        have hjl : j < sel.length := by rw [← hlen]; exact (List.getElem?_eq_some_iff.1 hj).1
        have hsj : sel[j]? = some sel[j] := List.getElem?_eq_getElem hjl
        obtain ⟨o1, o2, g1, g2, g3⟩ := hget j _ hsj
        rw [hj] at g3; simp only [Option.some.injEq] at g3; subst g3
        rw [hβ' j _ hsj] at hbj
        refine H.mine _ o1 b g1 hbj ?_
        cases o1 with
        | cells ro l t => simp only [SO.ren, Option.map_eq_some_iff] at g2; obtain ⟨l', _, rfl⟩ := g2; exact hm
        | map l => rfl
        | any => simp only [SO.ren, Option.some.injEq] at g2; subst g2; exact hm
      · intro b hb'
        simp only [hβd, List.mem_map] at hb'
        obtain ⟨i, hi, rfl⟩ := hb'
        have := hlt i hi
        simp only [List.getD_eq_getElem?_getD, List.getElem?_eq_getElem this, Option.getD_some]
        exact H.nw _ (List.getElem_mem this)
  · simp at hs

theorem keepT_rel {β : List Nat} {t : TT} {n m : Nat} {tmps : Array Value} (h : TRel ρ β t n tmps) : ∀ (S : List Tmp), TRel ρ β (keepT m t S) n tmps
  | [] => ⟨h.size, fun i v hi => by
    simp only [keepT]
    rcases TT.get_full .unk (Nat.log2 m + 1) i with e | e <;> rw [e] <;> trivial⟩
  | d :: S => ⟨h.size, fun i v hi => by
    simp only [keepT]
    rcases TT.get_set (t.get d) (keepT m t S) d i with e | e
    · rw [e]; trivial
    · rw [e]
      split
      · rename_i hd; subst hd; exact h.get _ v hi
      · exact (keepT_rel h S).get i v hi⟩
theorem tidy_sound {S : List Tmp} {n0 : Nat} {β0 : List Nat} (hn : n0 = β0.length) {Q : Exit → Act → World → Prop} {xs : X × St} (h : LQ ρ w0 own β0 Q (tidy S n0 xs)) {β : List Nat} {a : Act} {w : World} (hb : β0 <+: β)
    (R : Rel ρ w0 own xs.2 β a w) {e : Exit} (he : XRel ρ β xs.1 e) : Q e a w := by
  obtain ⟨x, s⟩ := xs
  have norm : ∀ y, (∀ v, y ≠ X.panic v) → x = y → Q e a w := by
    intro y hy hxy
    subst hxy
    have hx : ∀ β', XRel ρ β' x e := by
      intro β'
      cases x with
      | panic v => exact absurd rfl (hy v)
      | _ => exact he
    have ht : tidy S n0 (x, s) = (match selectS n0 (s.tmps.flat SV.refs ++ s.defers.flatMap fun (_, a, c) => a.flatMap SV.refs ++ c.flatMap SV.refs) s.heap with
      | some (sel, h) => match renD (indexIn · sel) s.defers with
        | some d => (x, { tmps := renT (indexIn · sel) s.tmps, nt := s.nt, defers := d, heap := h, path := s.path })
        | none => (x, s)
      | none => (x, s)) := by
      cases x with
      | panic v => exact absurd rfl (hy v)
      | _ => rfl
    rw [ht] at h
    split at h
    · rename_i sel h' hsel
      split at h
      · rename_i d hd
        obtain ⟨β', h1, h2, h3⟩ := selectS_sound hsel hn hb R.hp
        exact h β' a w h1 ⟨renT_rel h3 R.tm, renD_rel h3 hd R.df, h2, R.pa⟩ e (hx β')
      · exact h β a w hb R e (hx β)
    · exact h β a w hb R e (hx β)
  cases x with
  | panic v =>
    simp only [tidy] at h
    split at h
    · rename_i sel h' hsel
      split at h
      · rename_i v' d hv hd
        obtain ⟨β', h1, h2, h3⟩ := selectS_sound hsel hn hb R.hp
        obtain ⟨u, hu, rfl⟩ := he
        exact h β' a w h1 ⟨renT_rel h3 (keepT_rel R.tm S), renD_rel h3 hd R.df, h2, R.pa⟩ _ ⟨u, ren_rel h3 hv hu, rfl⟩
      · exact h β a w hb R _ he
    · exact h β a w hb R _ he
  | normal => exact norm .normal (by simp) rfl
  | exit id => exact norm (.exit id) (by simp) rfl
  | goto l => exact norm (.goto l) (by simp) rfl
  | ret => exact norm .ret (by simp) rfl
/- What is of the first blocks alone. -/
theorem low_both {β0 β : List Nat} (hb : β0 <+: β) (s : SV) : s.low β0.length = true → (∀ v, s.rel ρ β v → s.rel ρ β0 v) ∧ (∀ vs, s.relS ρ β vs → s.relS ρ β0 vs) := by
  have hget : ∀ i b, Nat.blt i β0.length = true → β[i]? = some b → β0[i]? = some b := fun i b hi hbi => by
    obtain ⟨t, rfl⟩ := hb
    rw [List.getElem?_append_left (Nat.le_of_ble_eq_true hi)] at hbi
    exact hbi
  induction s with
  | ptr i o =>
    intro h
    refine ⟨fun v h' => ?_, by simp [SV.relS]⟩
    simp only [SV.rel] at *
    obtain ⟨b, h1, h2⟩ := h'; exact ⟨b, hget i b h h1, h2⟩
  | map i =>
    intro h
    refine ⟨fun v h' => ?_, by simp [SV.relS]⟩
    simp only [SV.rel] at *
    obtain ⟨b, h1, h2⟩ := h'; exact ⟨b, hget i b h h1, h2⟩
  | slc i o n c =>
    intro h
    refine ⟨fun v h' => ?_, by simp [SV.relS]⟩
    simp only [SV.rel] at *
    obtain ⟨b, h1, h2⟩ := h'; exact ⟨b, hget i b h h1, h2⟩
  | fn g c ih =>
    intro h
    refine ⟨fun v h' => ?_, by simp [SV.relS]⟩
    simp only [SV.rel] at *
    obtain ⟨b, h1, h2⟩ := h'; exact ⟨b, (ih h).2 _ h1, h2⟩
  | ifc t x ih =>
    intro h
    refine ⟨fun v h' => ?_, by simp [SV.relS]⟩
    simp only [SV.rel] at *
    obtain ⟨b, h1, h2⟩ := h'; exact ⟨b, (ih h).1 _ h1, h2⟩
  | ptrx i base stride cnt e =>
    intro h
    refine ⟨fun v h' => ?_, by simp [SV.relS]⟩
    simp only [SV.rel] at *
    obtain ⟨b, h1, h2⟩ := h'; exact ⟨b, hget _ _ (by simpa [SV.low] using h) h1, h2⟩
  | agg l ih =>
    intro h
    refine ⟨fun v h' => ?_, by simp [SV.relS]⟩
    simp only [SV.rel] at *
    obtain ⟨b, h1, h2⟩ := h'; exact ⟨b, (ih h).2 _ h1, h2⟩
  | tup l ih =>
    intro h
    refine ⟨fun v h' => ?_, by simp [SV.relS]⟩
    simp only [SV.rel] at *
    obtain ⟨b, h1, h2⟩ := h'; exact ⟨b, (ih h).2 _ h1, h2⟩
  | cond g x ih =>
    intro h
    refine ⟨fun v h' => ?_, by simp [SV.relS]⟩
    simp only [SV.rel] at *
    exact ⟨fun hg => (ih h).1 _ (h'.1 hg), h'.2⟩
  | cons a l iha ihl =>
    intro h
    simp only [SV.low, Bool.and_eq_true] at h
    refine ⟨by simp [SV.rel], fun vs h' => ?_⟩
    simp only [SV.relS] at *
    obtain ⟨v, r, rfl, h1, h2⟩ := h'
    exact ⟨v, r, rfl, (iha h.1).1 _ h1, (ihl h.2).2 _ h2⟩
  | _ => intro _; simp [SV.rel, SV.relS]
theorem lowL_rel {β0 β : List Nat} (hb : β0 <+: β) : ∀ {l : List SV} {vs : List Value}, lowL β0.length l = true → RelL ρ β l vs → RelL ρ β0 l vs
  | [], _, _, h => h
  | a :: l, _, hl, h => by
    simp only [lowL, Bool.and_eq_true] at hl
    obtain ⟨v, r, rfl, h1, h2⟩ := h
    exact ⟨v, r, rfl, (low_both hb a hl.1).1 v h1, lowL_rel hb hl.2 h2⟩
theorem lowM_rel {β0 β : List Nat} (hb : β0 <+: β) : ∀ {l : List (SV × SV)} {vs : List MapEntry}, lowM β0.length l = true → RelM ρ β l vs → RelM ρ β0 l vs
  | [], _, _, h => h
  | (k, x) :: l, _, hl, h => by
    simp only [lowM, Bool.and_eq_true] at hl
    obtain ⟨e, r, rfl, h1, h2, h3⟩ := h
    exact ⟨e, r, rfl, (low_both hb k hl.1.1).1 _ h1, (low_both hb x hl.1.2).1 _ h2, lowM_rel hb hl.2 h3⟩
theorem lowH_get {n0 : Nat} : ∀ {n : Nat} {h : List SO}, lowH n0 n h = true → ∀ (i : Nat) (o : SO), i < n → h[i]? = some o → (match o with
    | .cells _ l _ => lowL n0 l
    | .map l => lowM n0 l
    | .any => true) = true
  | 0, _, _, i, _, hi, _ => absurd hi (Nat.not_lt_zero _)
  | n + 1, [], _, i, o, _, ho => by simp at ho
  | n + 1, x :: h, hl, i, o, hi, ho => by
    simp only [lowH, Bool.and_eq_true] at hl
    cases i with
    | zero => simp only [List.getElem?_cons_zero, Option.some.injEq] at ho; subst ho; exact hl.1
    | succ i => simp only [List.getElem?_cons_succ] at ho; exact lowH_get hl.2 i o (by omega) ho
theorem HRel.low {β0 β : List Nat} (hb : β0 <+: β) {h : List SO} {w : World} (H : HRel ρ w0 own h β w) (hl : lowH β0.length β0.length h = true) : HRel ρ w0 own (h.take β0.length) β0 w := by
  have hlen : β0.length ≤ h.length := by rw [← H.len]; exact hb.length_le
  have hpre : ∀ i b, β0[i]? = some b → β[i]? = some b := fun i b hi => pre_get hb hi
  refine ⟨by simp; omega, ?_, fun b hm => H.lt b (hb.subset hm), ?_, ?_, fun b hm => H.nw b (hb.subset hm), H.fr⟩
  · obtain ⟨t, rfl⟩ := hb; exact (List.nodup_append.1 H.nd).1
  · intro i o b ho hbi
    have hi : i < β0.length := (List.getElem?_eq_some_iff.1 hbi).1
    rw [List.getElem?_take_of_lt hi] at ho
    have h1 := H.holds i o b ho (hpre i b hbi)
    have h2 := lowH_get hl i o hi ho
    cases o with
    | cells ro l t => obtain ⟨vs, fz, e1, e2, e3⟩ := h1; exact ⟨vs, fz, lowL_rel hb h2 e1, e2, e3⟩
    | map l => obtain ⟨es, c, e1, e2⟩ := h1; exact ⟨es, c, lowM_rel hb h2 e1, e2⟩
    | any => trivial
  · intro i o b ho hbi hm
    have hi : i < β0.length := (List.getElem?_eq_some_iff.1 hbi).1
    rw [List.getElem?_take_of_lt hi] at ho
    exact H.mine i o b ho (hpre i b hbi) hm
theorem leaveV_sound {n0 : Nat} {β0 β : List Nat} (hn : n0 = β0.length) (hb : β0 <+: β) {h : List SO} {w : World} (H : HRel ρ w0 own h β w) {s : SV} {v : Value} (hv : s.rel ρ β v) :
    ∃ β', β0 <+: β' ∧ HRel ρ w0 own (leaveV n0 s h).2 β' w ∧ (leaveV n0 s h).1.rel ρ β' v := by
  unfold leaveV
  split
  · exact ⟨β, hb, H, hv⟩
  · split
    · rename_i hlow
      simp only [Bool.and_eq_true] at hlow
      subst hn
      exact ⟨β0, List.prefix_refl _, H.low hb hlow.2, (low_both hb s hlow.1).1 v hv⟩
    · split
      · rename_i sel h' hsel
        split
        · rename_i s' hs'
          obtain ⟨β', h1, h2, h3⟩ := selectS_sound hsel hn hb H
          exact ⟨β', h1, h2, ren_rel h3 hs' hv⟩
        · exact ⟨β, hb, H, hv⟩
      · exact ⟨β, hb, H, hv⟩

namespace Tree
variable {α : Type}
theorem sat_all {ι : Type} {L : ι → α → Prop} : ∀ {t : Tree α}, (∀ i, t.Sat ρ (L i)) → (∃ i : ι, True) → t.Sat ρ (fun a => ∀ i, L i a)
  | .leaf a, h, _ => fun i => h i
  | .ite e t f, h, hi => ⟨fun he => sat_all (fun i => (h i).1 he) hi, fun he => sat_all (fun i => (h i).2 he) hi⟩
  | .need e t, h, hi => by obtain ⟨i, _⟩ := hi; exact ⟨(h i).1, sat_all (fun i => (h i).2) ⟨i, trivial⟩⟩
  | .also t u, h, hi => ⟨sat_all (fun i => (h i).1) hi, sat_all (fun i => (h i).2) hi⟩
  | .ok, _, _ => trivial
  | .bad _, h, hi => by obtain ⟨i, _⟩ := hi; exact h i
theorem sat_unneed {L : α → Prop} : ∀ {t : Tree α}, t.Sat ρ L ↔ (∀ e ∈ t.unneed.1, e.denB ρ = true) ∧ t.unneed.2.Sat ρ L
  | .leaf a => by simp [unneed]
  | .ite e t f => by simp [unneed]
  | .also t u => by simp [unneed]
  | .ok => by simp [unneed]
  | .bad m => by simp [unneed]
  | .need e t => by
    simp only [unneed, Sat, List.mem_cons, forall_eq_or_imp]
    rw [sat_unneed (t := t)]
    exact ⟨fun ⟨h1, h2, h3⟩ => ⟨⟨h1, h2⟩, h3⟩, fun ⟨⟨h1, h2⟩, h3⟩ => ⟨h1, h2, h3⟩⟩
end Tree
theorem sameT_sound {t u : Tree (X × St)} (h : sameT t u = true) {L : X × St → Prop} (ht : t.Sat ρ L) : u.Sat ρ L := by
  simp only [sameT, Bool.and_eq_true, decide_eq_true_eq, List.all_eq_true] at h
  rw [Tree.sat_unneed] at ht ⊢
  exact ⟨fun e he => ht.1 e (List.contains_iff_mem.1 (h.2 e he)), h.1 ▸ ht.2⟩
theorem mergeT_sound {l : List (Tree (X × St))} {L : X × St → Prop} (h : (mergeT l).Sat ρ L) : ∀ t ∈ l, t.Sat ρ L := by
  cases l with
  | nil => exact h.elim
  | cons t l =>
    simp only [mergeT] at h
    split at h
    · rename_i hall
      intro u hu
      rcases List.mem_cons.1 hu with rfl | hu
      · exact h
      · exact sameT_sound (List.all_eq_true.1 hall u hu) h
    · exact h.elim
theorem tidyT_sound {S : List Tmp} {n0 : Nat} {β0 : List Nat} (hn : n0 = β0.length) {Q : Exit → Act → World → Prop} {t : Tree (X × St)} (h : (tidyT S n0 t).Sat ρ (LQ ρ w0 own β0 Q)) : t.Sat ρ (LQ ρ w0 own β0 Q) :=
  (Tree.sat_bind h).mono fun xs hxs β a w hb R e he => tidy_sound hn hxs hb R he

/- What several leaves have in common. -/
/-- A leaf to which the conditions lead. -/
def Reaches (ρ : Env) : Tree (X × St) → St → Prop
  | .leaf (.normal, s), st => st = s
  | .leaf _, _ => False
  | .ite e t f, st => (e.denB ρ = true ∧ Reaches ρ t st) ∨ (e.denB ρ = false ∧ Reaches ρ f st)
  | .need _ t, st => Reaches ρ t st
  | .also t u, st => Reaches ρ t st ∨ Reaches ρ u st
  | .ok, _ => False
  | .bad _, _ => False
theorem sat_kill {L L0 : X × St → Prop} (hc : ∀ xs, xs.1 ≠ .normal → L0 xs → L xs) : ∀ {t : Tree (X × St)}, t.kill.Sat ρ L0 → (∀ st, Reaches ρ t st → L (.normal, st)) → t.Sat ρ L
  | .leaf (.normal, st), _, h => h st rfl
  | .leaf (.exit _, _), h, _ => hc _ (by simp) h
  | .leaf (.goto _, _), h, _ => hc _ (by simp) h
  | .leaf (.ret, _), h, _ => hc _ (by simp) h
  | .leaf (.panic _, _), h, _ => hc _ (by simp) h
  | .ite e t f, h, hn => ⟨fun he => sat_kill hc (h.1 he) fun st hs => hn st (.inl ⟨he, hs⟩), fun he => sat_kill hc (h.2 he) fun st hs => hn st (.inr ⟨he, hs⟩)⟩
  | .need e t, h, hn => ⟨h.1, sat_kill hc h.2 fun st hs => hn st hs⟩
  | .also t u, h, hn => ⟨sat_kill hc h.1 fun st hs => hn st (.inl hs), sat_kill hc h.2 fun st hs => hn st (.inr hs)⟩
  | .ok, _, _ => trivial
  | .bad _, h, _ => h.elim
/-- One of two, by a condition if there is one. -/
def J (ρ : Env) (g : Option E) (A B : Prop) : Prop := (A ∧ ∀ e, g = some e → e.denB ρ = true) ∨ (B ∧ ∀ e, g = some e → e.denB ρ = false)
theorem J.both {g : Option E} {A : Prop} (h : J ρ g A A) : A := h.elim (·.1) (·.1)
theorem J.map {g : Option E} {A B A' B' : Prop} (h : J ρ g A B) (ha : A → A') (hb : B → B') : J ρ g A' B' := h.elim (fun h => .inl ⟨ha h.1, h.2⟩) (fun h => .inr ⟨hb h.1, h.2⟩)
theorem pickJ_rel {β : List Nat} {g : Option E} {x y : SV} {v : Value} (h : J ρ g (x.rel ρ β v) (y.rel ρ β v)) : (pickJ g x y).rel ρ β v := by
  unfold pickJ
  split
  · trivial
  · rename_i e
    split
    · simp only [SV.rel, E.denB_mkIteB] at h ⊢
      rcases h with ⟨h, he⟩ | ⟨h, he⟩
      · rw [he e rfl]; simpa using h
      · rw [he e rfl]; simpa using h
    · split
      · rename_i hk; subst hk
        simp only [SV.rel, E.den_mkIte] at h ⊢
        rcases h with ⟨h, he⟩ | ⟨h, he⟩
        · rw [he e rfl]; simpa using h
        · rw [he e rfl]; simpa using h
      · trivial
    · trivial
theorem join_both {β : List Nat} {g : Option E} (a : SV) : (∀ b v, J ρ g (a.rel ρ β v) (b.rel ρ β v) → (joinV g a b).rel ρ β v) ∧ (∀ b c vs, joinS g a b = some c → J ρ g (a.relS ρ β vs) (b.relS ρ β vs) → c.relS ρ β vs) := by
  have leaf : ∀ (x : SV) b v, J ρ g (x.rel ρ β v) (b.rel ρ β v) → (if x = b then b else pickJ g x b).rel ρ β v := by
    intro x b v h
    split
    · rename_i he; subst he; exact h.both
    · exact pickJ_rel h
  induction a with
  | agg l ih =>
    refine ⟨fun b v h => ?_, fun b c vs h => by simp [joinS] at h⟩
    simp only [joinV]
    split
    · rename_i l'
      split
      · rename_i r hr
        simp only [SV.rel] at h ⊢
        rcases h with ⟨⟨vs, h1, h2⟩, he⟩ | ⟨⟨vs, h1, h2⟩, he⟩
        · exact ⟨vs, ih.2 _ _ _ hr (.inl ⟨h1, he⟩), h2⟩
        · exact ⟨vs, ih.2 _ _ _ hr (.inr ⟨h1, he⟩), h2⟩
      · trivial
    · trivial
  | tup l ih =>
    refine ⟨fun b v h => ?_, fun b c vs h => by simp [joinS] at h⟩
    simp only [joinV]
    split
    · rename_i l'
      split
      · rename_i r hr
        simp only [SV.rel] at h ⊢
        rcases h with ⟨⟨vs, h1, h2⟩, he⟩ | ⟨⟨vs, h1, h2⟩, he⟩
        · exact ⟨vs, ih.2 _ _ _ hr (.inl ⟨h1, he⟩), h2⟩
        · exact ⟨vs, ih.2 _ _ _ hr (.inr ⟨h1, he⟩), h2⟩
      · trivial
    · trivial
  | nil =>
    refine ⟨fun b v h => by simp only [joinV]; trivial, fun b c vs h h' => ?_⟩
    simp only [joinS] at h
    split at h
    · simp only [Option.some.injEq] at h; subst h
      exact h'.both
    · simp at h
  | cons a l iha ihl =>
    refine ⟨fun b v h => by simp only [joinV]; trivial, fun b c vs h h' => ?_⟩
    simp only [joinS] at h
    split at h
    · rename_i a' l'
      split at h
      · rename_i r hr
        simp only [Option.some.injEq] at h; subst h
        simp only [SV.relS] at h' ⊢
        rcases h' with ⟨⟨v, q, rfl, h1, h2⟩, he⟩ | ⟨⟨v, q, rfl, h1, h2⟩, he⟩
        · exact ⟨v, q, rfl, iha.1 _ _ (.inl ⟨h1, he⟩), ihl.2 _ _ _ hr (.inl ⟨h2, he⟩)⟩
        · exact ⟨v, q, rfl, iha.1 _ _ (.inr ⟨h1, he⟩), ihl.2 _ _ _ hr (.inr ⟨h2, he⟩)⟩
      · simp at h
    · simp at h
  | _ =>
    refine ⟨fun b v h => ?_, fun b c vs h => by simp [joinS] at h⟩
    simp only [joinV]
    exact leaf _ b v h
theorem joinL_rel {β : List Nat} {g : Option E} : ∀ {l m r : List SV} {vs : List Value}, joinL g l m = some r → J ρ g (RelL ρ β l vs) (RelL ρ β m vs) → RelL ρ β r vs
  | [], [], r, vs, h, h' => by simp only [joinL, Option.some.injEq] at h; subst h; exact h'.both
  | a :: l, b :: m, r, vs, h, h' => by
    simp only [joinL, Option.map_eq_some_iff] at h
    obtain ⟨q, hq, rfl⟩ := h
    rcases h' with ⟨⟨v, s, rfl, h1, h2⟩, he⟩ | ⟨⟨v, s, rfl, h1, h2⟩, he⟩
    · exact ⟨v, s, rfl, (join_both a).1 _ _ (.inl ⟨h1, he⟩), joinL_rel hq (.inl ⟨h2, he⟩)⟩
    · exact ⟨v, s, rfl, (join_both a).1 _ _ (.inr ⟨h1, he⟩), joinL_rel hq (.inr ⟨h2, he⟩)⟩
  | [], _ :: _, _, _, h, _ => by simp [joinL] at h
  | _ :: _, [], _, _, h, _ => by simp [joinL] at h
theorem joinT_get {β : List Nat} {g : Option E} {v : Value} : ∀ (t u : TT) (i : Nat), J ρ g ((t.get i).rel ρ β v) ((u.get i).rel ρ β v) → ((joinT g t u).get i).rel ρ β v
  | .node l x r, .node l' x' r', i, h => by
    simp only [joinT, TT.get] at h ⊢
    split
    · rename_i hi
      simp only [hi] at h
      exact (join_both x).1 _ _ h
    · rename_i hi
      simp only [hi] at h
      split
      · rename_i h2
        simp only [h2] at h
        exact joinT_get l l' _ h
      · rename_i h2
        simp only [h2] at h
        exact joinT_get r r' _ h
  | .nil, _, _, _ => by simp only [joinT]; trivial
  | .node .., .nil, _, _ => by simp only [joinT]; trivial
theorem joinH_get {g : Option E} : ∀ {h h' k : List SO}, joinH g h h' = some k → k.length = h.length ∧ k.length = h'.length ∧ ∀ (i : Nat) (o : SO), k[i]? = some o → ∃ o1 o2, h[i]? = some o1 ∧ h'[i]? = some o2 ∧ o.mine = o1.mine ∧ o.mine = o2.mine ∧
    ∀ β w b, J ρ g (o1.holds ρ β w b) (o2.holds ρ β w b) → o.holds ρ β w b
  | [], [], k, hk => by simp only [joinH, Option.some.injEq] at hk; subst hk; simp
  | x :: h, y :: h', k, hk => by
    have same : ∀ z, x = z → y = z → (∃ q, joinH g h h' = some q ∧ z :: q = k) → k.length = (x :: h).length ∧ k.length = (y :: h').length ∧ ∀ (i : Nat) (o : SO), k[i]? = some o → ∃ o1 o2, (x :: h)[i]? = some o1 ∧ (y :: h')[i]? = some o2 ∧ o.mine = o1.mine ∧ o.mine = o2.mine ∧
        ∀ β w b, J ρ g (o1.holds ρ β w b) (o2.holds ρ β w b) → o.holds ρ β w b := by
      rintro z rfl rfl ⟨q, hq, rfl⟩
      obtain ⟨h1, h2, h3⟩ := joinH_get hq
      refine ⟨by simp [h1], by simp [h2], fun i o hi => ?_⟩
      cases i with
      | zero => simp only [List.getElem?_cons_zero, Option.some.injEq] at hi; subst hi; exact ⟨_, _, rfl, rfl, rfl, rfl, fun _ _ _ h => h.both⟩
      | succ i => simpa using h3 i o (by simpa using hi)
    unfold joinH at hk
    split at hk
    · simp at *
    · rename_i h1 h2
      simp only [List.cons.injEq] at h1 h2
      obtain ⟨rfl, rfl⟩ := h1
      obtain ⟨rfl, rfl⟩ := h2
      split at hk
      · rename_i hc
        obtain ⟨rfl, rfl⟩ := hc
        split at hk
        · rename_i r q hr hq
          simp only [Option.some.injEq] at hk; subst hk
          obtain ⟨h1, h2, h3⟩ := joinH_get hq
          refine ⟨by simp [h1], by simp [h2], fun i o hi => ?_⟩
          cases i with
          | zero =>
            simp only [List.getElem?_cons_zero, Option.some.injEq] at hi; subst hi
            refine ⟨_, _, rfl, rfl, rfl, rfl, fun β w b h => ?_⟩
            rcases h with ⟨⟨vs, fz, e1, e2, e3⟩, he⟩ | ⟨⟨vs, fz, e1, e2, e3⟩, he⟩
            · exact ⟨vs, fz, joinL_rel hr (.inl ⟨e1, he⟩), e2, e3⟩
            · exact ⟨vs, fz, joinL_rel hr (.inr ⟨e1, he⟩), e2, e3⟩
          | succ i => simpa using h3 i o (by simpa using hi)
        · simp at hk
      · simp at hk
    · rename_i h1 h2
      simp only [List.cons.injEq] at h1 h2
      obtain ⟨rfl, rfl⟩ := h1
      obtain ⟨rfl, rfl⟩ := h2
      split at hk
      · rename_i he
        subst he
        simp only [Option.map_eq_some_iff] at hk
        exact same _ rfl rfl hk
      · simp at hk
    · simp at hk
  | [], _ :: _, _, hk => by simp [joinH] at hk
  | _ :: _, [], _, hk => by simp [joinH] at hk
theorem trim_sound {n0 : Nat} {β0 : List Nat} (hn : n0 = β0.length) {p : List E} (hp : ρ.Path p) {s s' : St} (h : trim n0 p s = some s') {β : List Nat} {a : Act} {w : World} (hb : β0 <+: β) (R : Rel ρ w0 own s β a w) :
    Rel ρ w0 own s' β0 a w := by
  unfold trim at h
  split at h
  · rename_i hc
    simp only [Bool.and_eq_true] at hc
    simp only [Option.some.injEq] at h; subst h
    subst hn
    refine ⟨⟨R.tm.size, fun i v hi => ?_⟩, ?_, R.hp.low hb hc.1, hp⟩
    · rcases TT.get_map (fun v => if v.low β0.length then v else .unk) s.tmps i with e | e
      · simp only [e]
        split
        · rename_i hl; exact (low_both hb _ hl).1 v (R.tm.get i v hi)
        · trivial
      · simp only [e]; trivial
    · have := R.df
      rw [List.isEmpty_iff.1 hc.2] at this
      exact this
  · simp at h
theorem joinSt_sound {g : Option E} {s s' c : St} (h : joinSt g s s' = some c) {β : List Nat} {a : Act} {w : World} (hp : ρ.Path s.path) (R : J ρ g (Rel ρ w0 own s β a w) (Rel ρ w0 own s' β a w)) : Rel ρ w0 own c β a w := by
  unfold joinSt at h
  split at h
  · rename_i hnt
    obtain ⟨hnt, hd, hd'⟩ := hnt
    have hd := List.isEmpty_iff.1 hd
    have hd' := List.isEmpty_iff.1 hd'
    simp only [Option.map_eq_some_iff] at h
    obtain ⟨k, hk, rfl⟩ := h
    obtain ⟨h1, h2, h3⟩ := joinH_get (ρ := ρ) hk
    have R' : Rel ρ w0 own s β a w ∨ Rel ρ w0 own s' β a w := R.elim (fun h => .inl h.1) (fun h => .inr h.1)
    have hsize : a.tmps.size = s.nt := by
      rcases R' with R | R
      · exact R.tm.size
      · rw [hnt]; exact R.tm.size
    refine ⟨⟨hsize, fun i v hi => joinT_get _ _ i (R.map (fun R => R.tm.get i v hi) (fun R => R.tm.get i v hi))⟩, ?_, ⟨?_, ?_, ?_, ?_, ?_, ?_, ?_⟩, hp⟩
    · rcases R' with R | R
      · have := R.df; rw [hd] at this; exact this
      · have := R.df; rw [hd'] at this; exact this
    · rcases R' with R | R
      · show β.length = k.length; rw [h1]; exact R.hp.len
      · show β.length = k.length; rw [h2]; exact R.hp.len
    · exact R'.elim (·.hp.nd) (·.hp.nd)
    · exact R'.elim (·.hp.lt) (·.hp.lt)
    · intro i o b hi hb
      obtain ⟨o1, o2, g1, g2, _, _, g5⟩ := h3 i o hi
      exact g5 β w b (R.map (fun R => R.hp.holds i o1 b g1 hb) (fun R => R.hp.holds i o2 b g2 hb))
    · intro i o b hi hb hm
      obtain ⟨o1, o2, g1, g2, g3, g4, _⟩ := h3 i o hi
      rcases R' with R | R
      · exact R.hp.mine i o1 b g1 hb (g3 ▸ hm)
      · exact R.hp.mine i o2 b g2 hb (g4 ▸ hm)
    · exact R'.elim (·.hp.nw) (·.hp.nw)
    · exact R'.elim (·.hp.fr) (·.hp.fr)
  · simp at h
theorem trim_path {n0 : Nat} {p : List E} {s s' : St} (h : trim n0 p s = some s') : s'.path = p := by
  unfold trim at h
  split at h
  · simp only [Option.some.injEq] at h; subst h; rfl
  · simp at h
theorem joinSt_path {g : Option E} {s s' c : St} (h : joinSt g s s' = some c) : c.path = s.path := by
  unfold joinSt at h
  split at h
  · simp only [Option.map_eq_some_iff] at h
    obtain ⟨k, _, rfl⟩ := h
    rfl
  · simp at h
theorem joinTr_sound {b : Bool} {n0 : Nat} {β0 : List Nat} (hn : n0 = β0.length) {p : List E} (hp : ρ.Path p) : ∀ {t : Tree (X × St)} {r : Option St}, joinTr b n0 p t = some r → (∀ c, r = some c → c.path = p) ∧
    ∀ s, Reaches ρ t s → ∃ c, r = some c ∧ ∀ {β : List Nat} {a : Act} {w : World}, β0 <+: β → Rel ρ w0 own s β a w → Rel ρ w0 own c β0 a w := by
  have two : ∀ {g : Option E} {x y r : Option (Option St)} {A B : St → Prop} {c : Option St}, (∀ r, x = some r → (∀ c, r = some c → c.path = p) ∧ ∀ s, A s → ∃ c, r = some c ∧ ∀ {β : List Nat} {a : Act} {w : World}, β0 <+: β → Rel ρ w0 own s β a w → Rel ρ w0 own c β0 a w) →
      (∀ r, y = some r → (∀ c, r = some c → c.path = p) ∧ ∀ s, B s → ∃ c, r = some c ∧ ∀ {β : List Nat} {a : Act} {w : World}, β0 <+: β → Rel ρ w0 own s β a w → Rel ρ w0 own c β0 a w) → joinO g x y = some c →
      (∀ d, c = some d → d.path = p) ∧ ∀ s, J ρ g (A s) (B s) → ∃ d, c = some d ∧ ∀ {β : List Nat} {a : Act} {w : World}, β0 <+: β → Rel ρ w0 own s β a w → Rel ρ w0 own d β0 a w := by
    intro g x y r A B c hx hy h
    unfold joinO at h
    split at h
    · obtain ⟨y1, y2⟩ := hy _ h
      refine ⟨y1, fun s hs => ?_⟩
      rcases hs with ⟨hs, _⟩ | ⟨hs, _⟩
      · obtain ⟨_, h0, _⟩ := (hx _ rfl).2 s hs; cases h0
      · exact y2 s hs
    · rename_i a
      simp only [Option.some.injEq] at h; subst h
      obtain ⟨x1, x2⟩ := hx _ rfl
      refine ⟨x1, fun s hs => ?_⟩
      rcases hs with ⟨hs, _⟩ | ⟨hs, _⟩
      · exact x2 s hs
      · obtain ⟨_, h0, _⟩ := (hy _ rfl).2 s hs; cases h0
    · rename_i a b
      simp only [Option.map_eq_some_iff] at h
      obtain ⟨d, hd, rfl⟩ := h
      obtain ⟨x1, x2⟩ := hx _ rfl
      obtain ⟨y1, y2⟩ := hy _ rfl
      have hpa := x1 a rfl
      refine ⟨fun d' hd' => by simp only [Option.some.injEq] at hd'; subst hd'; rw [joinSt_path hd, hpa], fun s hs => ⟨d, rfl, fun hb R => joinSt_sound hd (by rw [hpa]; exact hp) ?_⟩⟩
      refine hs.map (fun hs => ?_) (fun hs => ?_)
      · obtain ⟨_, h0, h1⟩ := x2 s hs
        simp only [Option.some.injEq] at h0; subst h0; exact h1 hb R
      · obtain ⟨_, h0, h1⟩ := y2 s hs
        simp only [Option.some.injEq] at h0; subst h0; exact h1 hb R
    · cases h
  intro t
  induction t with
  | leaf xs =>
    obtain ⟨x, st⟩ := xs
    intro r h
    cases x with
    | normal =>
      simp only [joinTr, Option.map_eq_some_iff] at h
      obtain ⟨c, hc, rfl⟩ := h
      refine ⟨fun d hd => by simp only [Option.some.injEq] at hd; subst hd; exact trim_path hc, fun s hs => ⟨c, rfl, fun hb R => ?_⟩⟩
      simp only [Reaches] at hs; subst hs
      exact trim_sound hn hp hc hb R
    | _ => simp only [joinTr, Option.some.injEq] at h; subst h; exact ⟨fun d hd => (by cases hd), fun s hs => by simp only [Reaches] at hs⟩
  | ite e t f iht ihf =>
    intro r h
    simp only [joinTr] at h
    obtain ⟨h1, h2⟩ := two (A := Reaches ρ t) (B := Reaches ρ f) (r := none) (fun r hr => iht hr) (fun r hr => ihf hr) h
    refine ⟨h1, fun s hs => h2 s ?_⟩
    rcases hs with ⟨he, hs⟩ | ⟨he, hs⟩
    · exact .inl ⟨hs, fun e' he' => by split at he' <;> simp at he'; subst he'; exact he⟩
    · exact .inr ⟨hs, fun e' he' => by split at he' <;> simp at he'; subst he'; exact he⟩
  | need e t ih => intro r h; exact ih h
  | also t u iht ihu =>
    intro r h
    simp only [joinTr] at h
    obtain ⟨h1, h2⟩ := two (A := Reaches ρ t) (B := Reaches ρ u) (r := none) (fun r hr => iht hr) (fun r hr => ihu hr) h
    refine ⟨h1, fun s hs => h2 s ?_⟩
    rcases hs with hs | hs
    · exact .inl ⟨hs, fun e' he' => by cases he'⟩
    · exact .inr ⟨hs, fun e' he' => by cases he'⟩
  | ok => intro r h; simp only [joinTr, Option.some.injEq] at h; subst h; exact ⟨fun d hd => (by cases hd), fun s hs => hs.elim⟩
  | bad m => intro r h; simp only [joinTr, Option.some.injEq] at h; subst h; exact ⟨fun d hd => (by cases hd), fun s hs => hs.elim⟩
theorem meet_sound {t t' : Tree (X × St)} {n0 : Nat} {β0 : List Nat} (hn : n0 = β0.length) {p : List E} (hp : ρ.Path p) {c : St} (h : meet t n0 p = some (t', c)) {L L0 : X × St → Prop} (hc : ∀ xs, xs.1 ≠ .normal → L0 xs → L xs) (ht : t'.Sat ρ L0)
    (hL : ∀ st, Reaches ρ t st → (∀ {β : List Nat} {a : Act} {w : World}, β0 <+: β → Rel ρ w0 own st β a w → Rel ρ w0 own c β0 a w) → L (.normal, st)) : t.Sat ρ L := by
  unfold meet at h
  split at h
  · split at h
    · rename_i s hs
      simp only [Option.some.injEq, Prod.mk.injEq] at h
      obtain ⟨rfl, rfl⟩ := h
      obtain ⟨_, h2⟩ := joinTr_sound (w0 := w0) (own := own) hn hp hs
      refine sat_kill hc ht fun st hst => hL st hst ?_
      obtain ⟨c, h0, h1⟩ := h2 st hst
      simp only [Option.some.injEq] at h0; subst h0
      exact h1
    · cases h
  · simp at h
end Go.Sx
