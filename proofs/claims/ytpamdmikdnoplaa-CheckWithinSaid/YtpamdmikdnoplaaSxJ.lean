/- Code and calls, run on what is known in part: soundness. -/
import Derived.Test.YtpamdmikdnoplaaSxR
import Derived.ScopeJumps
namespace Go.Sx
set_option linter.unusedVariables false
variable {P : Program} {ρ : Env} {w0 : World} {own : Own}

theorem evLoop_sound {K : CallK} {S : List Tmp} {c : Code} {ev : St → Tree (X × St)} {Q : Exit → Act → World → Prop}
    (ih : ∀ {Q' : Exit → Act → World → Prop}, PanicOk S Q' → ∀ {st : St} {β : List Nat} {a : Act} {w : World}, Rel ρ w0 own st β a w → (ev st).Sat ρ (LQ ρ w0 own β Q') → c.wp P Q' a w) (hQ : PanicOk S Q) :
    ∀ (n : Nat) {st : St} {β : List Nat} {a : Act} {w : World}, Rel ρ w0 own st β a w → (evLoop ev n st).Sat ρ (LQ ρ w0 own β Q) → Code.rounds P c Q n a w
  | 0, st, β, a, w, R, h => h.elim
  | n + 1, st, β, a, w, R, h => by
    simp only [evLoop] at h
    rw [rounds_succ]
    split at h
    · rename_i t s hm
      refine ih (Q' := Exit.then (Code.rounds P c Q n) Q) (fun ch a a' w ha hs hq => hQ ch a a' w ha hs hq) R ?_
      refine meet_sound (w0 := w0) (own := own) (L0 := LQ ρ w0 own β Q) R.hp.len.symm R.pa hm (fun xs hx hl β' a' w' hb R' e he => ?_) h.1 ?_
      · obtain ⟨x, st'⟩ := xs
        cases x with
        | normal => exact absurd rfl hx
        | exit id => simp only [XRel] at he; subst he; exact hl β' a' w' hb R' _ rfl
        | goto l => simp only [XRel] at he; subst he; exact hl β' a' w' hb R' _ rfl
        | ret => simp only [XRel] at he; subst he; exact hl β' a' w' hb R' _ rfl
        | panic s => obtain ⟨v, hv, rfl⟩ := he; exact hl β' a' w' hb R' _ ⟨v, hv, rfl⟩
      · intro st' _ hrel β' a' w' hb R' e he
        simp only [XRel] at he; subst he
        exact evLoop_sound (K := K) (S := S) ih hQ n (hrel hb R') h.2
    · refine ih (Q' := Exit.then (Code.rounds P c Q n) Q) (fun ch a a' w ha hs hq => hQ ch a a' w ha hs hq) R ((Tree.sat_bind h).mono fun xs hxs => ?_)
      obtain ⟨x, st'⟩ := xs
      intro β' a' w' hb R' e he
      cases x with
      | normal => simp only [XRel] at he; subst he; exact evLoop_sound (K := K) (S := S) ih hQ n R' (hxs.mono fun _ hl => hl.mono hb)
      | exit id => simp only [XRel] at he; subst he; exact hxs β' a' w' hb R' _ rfl
      | goto l => simp only [XRel] at he; subst he; exact hxs β' a' w' hb R' _ rfl
      | ret => simp only [XRel] at he; subst he; exact hxs β' a' w' hb R' _ rfl
      | panic s => obtain ⟨v, hv, rfl⟩ := he; exact hxs β' a' w' hb R' _ ⟨v, hv, rfl⟩

theorem lab_find {l : Nat} : ∀ {c : Code}, labC c = some l → ∃ rest, findLabel c l = some rest
  | .label l', h => by simp only [labC, Option.some.injEq] at h; subst h; exact ⟨.skip, by simp [findLabel]⟩
  | .seq a b, h => by
    simp only [labC] at h
    cases ha : findLabel a l with
    | some r => exact ⟨.seq r b, by simp [findLabel, ha]⟩
    | none =>
      split at h
      · rename_i l' hl
        simp only [Option.some.injEq] at h; subst h
        obtain ⟨r, hr⟩ := lab_find hl
        rw [ha] at hr; simp at hr
      · obtain ⟨r, hr⟩ := lab_find h
        exact ⟨r, by simp [findLabel, ha, hr]⟩
  | .skip, h | .region .., h | .cond .., h | .block .., h | .loop .., h | .rangeFunc .., h | .exit .., h | .scope .., h | .goto .., h | .ret, h | .refuse .., h => by simp [labC] at h

def CodeOk (P : Program) (ρ : Env) (w0 : World) (own : Own) (K : CallK) (S : List Tmp) (N : Nat) (c : Code) : Prop :=
  (∀ {Q : Exit → Act → World → Prop}, PanicOk S Q → ∀ {st : St} {β : List Nat} {a : Act} {w : World}, Rel ρ w0 own st β a w → (evCode P K S N c st).Sat ρ (LQ ρ w0 own β Q) → c.wp P Q a w) ∧
  (∀ l rest, findLabel c l = some rest → ∀ {Q : Exit → Act → World → Prop}, PanicOk S Q → ∀ {st : St} {β : List Nat} {a : Act} {w : World}, Rel ρ w0 own st β a w → (evFrom P K S N l c st).Sat ρ (LQ ρ w0 own β Q) → rest.wp P Q a w)

theorem evCode_both {K : CallK} (hK : ∀ w0 own, CallOk P ρ w0 own K) {S : List Tmp} {N : Nat} : ∀ (c : Code), CodeOk P ρ w0 own K S N c := by
  intro c
  induction c with
  | skip => exact ⟨fun hQ _ _ _ _ R h => wp_skip (h _ _ _ (List.prefix_refl _) R .normal rfl), by intro l rest hl; simp [findLabel] at hl⟩
  | label l0 =>
    refine ⟨fun hQ _ _ _ _ R h => wp_label (h _ _ _ (List.prefix_refl _) R .normal rfl), fun l rest hl Q hQ st β a w R h => ?_⟩
    simp only [findLabel] at hl
    simp only [evFrom] at h
    split at hl
    · rename_i hll
      rw [if_pos hll] at h
      simp only [Option.some.injEq] at hl; subst hl
      exact wp_skip (h _ _ _ (List.prefix_refl _) R .normal rfl)
    · simp at hl
  | exit id => exact ⟨fun hQ _ _ _ _ R h => wp_exit (h _ _ _ (List.prefix_refl _) R (.exit id) rfl), by intro l rest hl; simp [findLabel] at hl⟩
  | goto l => exact ⟨fun hQ _ _ _ _ R h => wp_goto (h _ _ _ (List.prefix_refl _) R (.goto l) rfl), by intro l rest hl; simp [findLabel] at hl⟩
  | ret => exact ⟨fun hQ _ _ _ _ R h => wp_ret (h _ _ _ (List.prefix_refl _) R .ret rfl), by intro l rest hl; simp [findLabel] at hl⟩
  | refuse m => exact ⟨fun hQ _ _ _ _ R h => h.elim, by intro l rest hl; simp [findLabel] at hl⟩
  | rangeFunc f ps c1 c2 _ _ => exact ⟨fun hQ _ _ _ _ R h => h.elim, by intro l rest hl; simp [findLabel] at hl⟩
  | region id ops draw =>
    refine ⟨?_, by intro l rest hl; simp [findLabel] at hl⟩
    intro Q hQ st β a w R h
    simp only [evCode] at h
    cases draw with
    | false =>
      simp only [Bool.false_eq_true, if_false] at h
      exact wp_region (evOps_sound (hK _ _) _ R h)
    | true =>
      simp only [if_true] at h
      split at h
      · rename_i hm
        simp only [Bool.and_eq_true] at hm
        have hf := R.hp.fr
        have R' : Rel ρ w0 own st β a { w with drawn := w.drawn + 1 } := ⟨R.tm, R.df, ⟨R.hp.len, R.hp.nd, R.hp.lt, fun i o b hi hb => SO.holds_of (List.prefix_refl _) rfl (R.hp.holds i o b hi hb), R.hp.mine, R.hp.nw, ⟨hf.os, hf.tape, hf.output, hf.size, hf.block⟩⟩, R.pa⟩
        refine wp_region_any hm.1 (wpAny_of_J _ _ _ _ (evR_sound (w0 := w0) (own := own) hK hm.2 hQ R.hp.len.symm _ _ _ _ _ h β a a _ _ _ [] [] (List.prefix_refl _) R' PI.start rfl ?_ ops.size
          (by rw [(statics_ok (ops := ops) ops.toList [] 0 (fun k => by simp) (by simp)).2.2.2]; simp)))
        exact ⟨by simp, by simp, by simp, by simp, by simp, by simp, by simp, by simp, ⟨rfl, rfl, fun _ _ => rfl, by simp⟩, rfl, by simp⟩
      · exact h.elim
  | seq x y ihx ihy =>
    refine ⟨?_, fun l rest hl Q hQ st β a w R h => ?_⟩
    rotate_left
    · simp only [findLabel] at hl
      simp only [evFrom] at h
      cases hx : findLabel x l with
      | some r =>
        simp only [hx, Option.some.injEq] at hl; subst hl
        simp only [hx, Option.isSome_some, if_true] at h
        refine wp_seq (ihx.2 l r hx (Q := Exit.then (y.wp P Q) Q) (fun ch a a' w ha hs hq => hQ ch a a' w ha hs hq) R ((Tree.sat_bind h).mono fun xs hxs => ?_))
        obtain ⟨x', st'⟩ := xs
        intro β' a' w' hb R' e he
        cases x' with
        | normal => simp only [XRel] at he; subst he; exact ihy.1 hQ R' (hxs.mono fun _ hl => hl.mono hb)
        | exit id => simp only [XRel] at he; subst he; exact hxs β' a' w' hb R' _ rfl
        | goto l => simp only [XRel] at he; subst he; exact hxs β' a' w' hb R' _ rfl
        | ret => simp only [XRel] at he; subst he; exact hxs β' a' w' hb R' _ rfl
        | panic s => obtain ⟨v, hv, rfl⟩ := he; exact hxs β' a' w' hb R' _ ⟨v, hv, rfl⟩
      | none =>
        simp only [hx] at hl
        simp only [hx, Option.isSome_none, Bool.false_eq_true, if_false] at h
        exact ihy.2 l rest hl hQ R h
    intro Q hQ st β a w R h
    simp only [evCode] at h
    refine wp_seq (ihx.1 (Q := Exit.then (y.wp P Q) Q) (fun ch a a' w ha hs hq => hQ ch a a' w ha hs hq) R ((Tree.sat_bind h).mono fun xs hxs => ?_))
    obtain ⟨x', st'⟩ := xs
    intro β' a' w' hb R' e he
    cases x' with
    | normal => simp only [XRel] at he; subst he; exact ihy.1 hQ R' (hxs.mono fun _ hl => hl.mono hb)
    | exit id => simp only [XRel] at he; subst he; exact hxs β' a' w' hb R' _ rfl
    | goto l => simp only [XRel] at he; subst he; exact hxs β' a' w' hb R' _ rfl
    | ret => simp only [XRel] at he; subst he; exact hxs β' a' w' hb R' _ rfl
    | panic s => obtain ⟨v, hv, rfl⟩ := he; exact hxs β' a' w' hb R' _ ⟨v, hv, rfl⟩
  | cond c x y ihx ihy =>
    refine ⟨?_, by intro l rest hl; simp [findLabel] at hl⟩
    intro Q hQ st β a w R h
    simp only [evCode] at h
    have hc := stripC_rel R.pa (R.ev c)
    split at h
    · rename_i e he
      rw [he] at hc
      simp only [SV.rel] at hc
      split at h
      · rename_i hd
        have := decideE_sound R.pa hd
        exact wp_cond hc (by rw [this]; exact ihx.1 hQ R h)
      · rename_i hd
        have := decideE_sound R.pa hd
        exact wp_cond hc (by rw [this]; exact ihy.1 hQ R h)
      · refine wp_cond_split hc (fun ht => ?_) (fun hf => ?_)
        · exact ihx.1 hQ (R.onPath (R.pa.assumeT ht)) (h.1 ht)
        · exact ihy.1 hQ (R.onPath (R.pa.assumeF hf)) (h.2 hf)
    · exact h.elim
  | block id c ih =>
    refine ⟨?_, by intro l rest hl; simp [findLabel] at hl⟩
    intro Q hQ st β a w R h
    simp only [evCode] at h
    refine wp_block (ih.1 (Q := Exit.inBlock id Q) (fun ch a a' w ha hs hq => hQ ch a a' w ha hs hq) R ((Tree.sat_bind h).mono fun xs hxs => ?_))
    obtain ⟨x', st'⟩ := xs
    simp only at hxs
    intro β' a' w' hb R' e he
    split at hxs
    · rename_i hx; subst hx
      simp only [XRel] at he; subst he
      simp only [Exit.inBlock, if_true]
      exact hxs β' a' w' hb R' .normal rfl
    · rename_i hx
      cases x' with
      | exit id' =>
        simp only [XRel] at he; subst he
        have : id' ≠ id := fun hc => hx (by rw [hc])
        simp only [Exit.inBlock, if_neg this]
        exact hxs β' a' w' hb R' _ rfl
      | normal => simp only [XRel] at he; subst he; exact hxs β' a' w' hb R' _ rfl
      | goto l => simp only [XRel] at he; subst he; exact hxs β' a' w' hb R' _ rfl
      | ret => simp only [XRel] at he; subst he; exact hxs β' a' w' hb R' _ rfl
      | panic s => obtain ⟨v, hv, rfl⟩ := he; exact hxs β' a' w' hb R' _ ⟨v, hv, rfl⟩
  | loop c ih =>
    refine ⟨?_, by intro l rest hl; simp [findLabel] at hl⟩
    intro Q hQ st β a w R h
    simp only [evCode] at h
    exact wp_loop_rounds N (evLoop_sound (K := K) (S := S) (fun hq' _ _ _ _ R' h' => ih.1 hq' R' h') hQ N R h)
  | scope c ih =>
    refine ⟨?_, by intro l rest hl; simp [findLabel] at hl⟩
    intro Q hQ st β a w R h
    simp only [evCode] at h
    cases hlab : labC c with
    | none =>
      refine wp_scope_straight (ih.1 (Q := Exit.noGoto Q) (fun ch a a' w ha hs hq => hQ ch a a' w ha hs hq) R ((Tree.sat_bind h).mono fun xs hxs => ?_))
      obtain ⟨x', st'⟩ := xs
      intro β' a' w' hb R' e he
      cases x' with
      | goto l => simp only [hlab] at hxs; exact hxs.elim
      | normal => simp only [XRel] at he; subst he; exact hxs β' a' w' hb R' _ rfl
      | exit id => simp only [XRel] at he; subst he; exact hxs β' a' w' hb R' _ rfl
      | ret => simp only [XRel] at he; subst he; exact hxs β' a' w' hb R' _ rfl
      | panic s => obtain ⟨v, hv, rfl⟩ := he; exact hxs β' a' w' hb R' _ ⟨v, hv, rfl⟩
    | some l =>
      obtain ⟨rest, hrest⟩ := lab_find hlab
      -- behind the jump
      let J : Act → World → Prop := fun a' w' => ∃ st' β', β <+: β' ∧ Rel ρ w0 own st' β' a' w' ∧ (evFrom P K S N l c st').Sat ρ (LQ ρ w0 own β' (Exit.noGoto Q))
      refine wp_scope_jumps l J (fun _ _ => 0) hrest (ih.1 (Q := Exit.jump l J Q) (fun ch a a' w ha hs hq => hQ ch a a' w ha hs hq) R ((Tree.sat_bind h).mono fun xs hxs => ?_)) ?_
      · obtain ⟨x', st'⟩ := xs
        intro β' a' w' hb R' e he
        cases x' with
        | goto l' =>
          simp only [XRel] at he; subst he
          simp only at hxs
          split at hxs
          · rename_i hl
            rw [hlab] at hl
            simp only [Option.some.injEq] at hl; subst hl
            refine ⟨rfl, st', β', hb, R', (Tree.sat_bind hxs).mono fun ys hys => ?_⟩
            obtain ⟨y, st''⟩ := ys
            intro β'' a'' w'' hb'' R'' e'' he''
            cases y with
            | goto l'' => exact hys.elim
            | normal => simp only [XRel] at he''; subst he''; exact hys β'' a'' w'' (hb.trans hb'') R'' _ rfl
            | exit id => simp only [XRel] at he''; subst he''; exact hys β'' a'' w'' (hb.trans hb'') R'' _ rfl
            | ret => simp only [XRel] at he''; subst he''; exact hys β'' a'' w'' (hb.trans hb'') R'' _ rfl
            | panic s => obtain ⟨v, hv, rfl⟩ := he''; exact hys β'' a'' w'' (hb.trans hb'') R'' _ ⟨v, hv, rfl⟩
          · exact hxs.elim
        | normal => simp only [XRel] at he; subst he; exact hxs β' a' w' hb R' _ rfl
        | exit id => simp only [XRel] at he; subst he; exact hxs β' a' w' hb R' _ rfl
        | ret => simp only [XRel] at he; subst he; exact hxs β' a' w' hb R' _ rfl
        | panic s => obtain ⟨v, hv, rfl⟩ := he; exact hxs β' a' w' hb R' _ ⟨v, hv, rfl⟩
      · rintro a' w' ⟨st', β', hb, R', hsat⟩
        refine wp_mono (ih.2 l rest hrest (Q := Exit.noGoto Q) (fun ch a a' w ha hs hq => hQ ch a a' w ha hs hq) R' hsat) fun e a'' w'' hq => ?_
        cases e with
        | goto l' => exact hq.elim
        | _ => exact hq

theorem evCode_sound {K : CallK} (hK : ∀ w0 own, CallOk P ρ w0 own K) {S : List Tmp} {N : Nat} (c : Code) {Q : Exit → Act → World → Prop} (hQ : PanicOk S Q) {st : St} {β : List Nat} {a : Act} {w : World} (R : Rel ρ w0 own st β a w)
    (h : (evCode P K S N c st).Sat ρ (LQ ρ w0 own β Q)) : c.wp P Q a w := (evCode_both hK c).1 hQ R h

def resVar (tmps : Array Value) : ResultVar → Sem Value
  | .tmp t => pure (tmps.getD t undef)
  | .cell x t => do loadVar t (← asAddr (tmps.getD x undef))
theorem resultS_sound {st : St} {β : List Nat} {a : Act} {w : World} (R : Rel ρ w0 own st β a w) {r : ResultVar} {s : SV} (h : resultS P st r = some s) :
    ∃ v, s.rel ρ β v ∧ (resVar a.tmps r).run P w = .ok v w := by
  cases r with
  | tmp t =>
    simp only [resultS, Option.some.injEq] at h; subst h
    exact ⟨a.tmps.getD t undef, stripC_rel R.pa (R.ev (.tmp t)), rfl⟩
  | cell x t =>
    simp only [resultS] at h
    have hx := stripC_rel R.pa (R.ev (.tmp x))
    obtain ⟨u, h1, h2⟩ := run_loadS h R.hp hx
    refine ⟨u, h1, ?_⟩
    generalize stripC st.path (st.ev (.tmp x)) = s' at *
    unfold loadS at h
    split at h
    · simp only [SV.rel, Act.eval] at hx
      obtain ⟨b, hb, hx⟩ := hx
      simp only [Act.eval, hx, Instr.loadAt, Instr.sureAddr, Sem.run_bind, Sem.run_pure, Result.andThen_ok] at h2
      simp only [resVar, hx, asAddr, Sem.run_bind, Sem.run_pure, Result.andThen_ok, h2]
    · simp only [SV.rel, Act.eval] at hx
      obtain ⟨b, hb, _, _, hx⟩ := hx
      simp only [Act.eval, hx, Instr.loadAt, Instr.sureAddr, Sem.run_bind, Sem.run_pure, Result.andThen_ok] at h2
      simp only [resVar, hx, asAddr, Sem.run_bind, Sem.run_pure, Result.andThen_ok, h2]
    · simp at h

theorem resultsS_sound {st : St} {β : List Nat} {a : Act} {w : World} (R : Rel ρ w0 own st β a w) : ∀ {rs : List ResultVar} {l : List SV}, resultsS P st rs = some l →
    ∃ vs, RelL ρ β l vs ∧ (rs.mapM (resVar a.tmps)).run P w = .ok vs w
  | [], l, h => by simp [resultsS] at h; subst h; exact ⟨[], rfl, by simp⟩
  | r :: rs, l, h => by
    simp only [resultsS] at h
    split at h
    · rename_i s ss h1 h2
      simp only [Option.some.injEq] at h; subst h
      obtain ⟨v, hv, hr⟩ := resultS_sound R h1
      obtain ⟨vs, hvs, hrs⟩ := resultsS_sound R h2
      exact ⟨v :: vs, ⟨v, vs, rfl, hv, hvs⟩, by simp only [List.mapM_cons, Sem.run_bind, hr, Result.andThen_ok, hrs, Sem.run_pure]⟩
    · simp at h

theorem results_sound {fn : Func} {st : St} {β : List Nat} {a : Act} {w : World} (R : Rel ρ w0 own st β a w) {l : List SV} (h : resultsS P st fn.results.toList = some l) :
    ∃ v, (packS l).rel ρ β v ∧ (results fn a.tmps).run P w = .ok v w := by
  obtain ⟨vs, hvs, hr⟩ := resultsS_sound R h
  have e : (fn.results.mapM (resVar a.tmps)).run P w = .ok vs.toArray w := by
    rw [← Array.toArray_toList (xs := fn.results), List.mapM_toArray, Sem.run_map, hr]
    rfl
  have key : (results fn a.tmps).run P w = .ok (if h : vs.toArray.size = 1 then vs.toArray[0] else .tuple vs.toArray) w := by
    unfold results
    rw [Sem.run_bind]
    exact (congrArg (fun r => Result.andThen r _) e).trans rfl
  match l, vs, hvs, key with
  | [], _, hvs, key => simp only [RelL] at hvs; subst hvs; exact ⟨.tuple #[], ⟨[], rfl, rfl⟩, key⟩
  | [s], _, hvs, key =>
    obtain ⟨v, r, rfl, hv, hr⟩ := hvs
    simp only [RelL] at hr; subst hr
    exact ⟨v, hv, key⟩
  | s :: s' :: l, _, hvs, key =>
    have hvs' := hvs
    obtain ⟨v, r, rfl, hv, v', r', rfl, hv', hr⟩ := hvs
    refine ⟨.tuple (v :: v' :: r').toArray, ⟨_, relS_ofL hvs', rfl⟩, ?_⟩
    rw [key, dif_neg (by simp)]

def URel (ρ : Env) (β : List Nat) : U → FrameMode → Prop
  | .ret, m => m = .returning
  | .pan s r, m => ∃ v, s.rel ρ β v ∧ m = .panicking [{ v, recovered := r }]
theorem URel.mono {β β' : List Nat} (hb : β <+: β') {u : U} {m : FrameMode} (h : URel ρ β u m) : URel ρ β' u m := by
  cases u with
  | ret => exact h
  | pan s r => obtain ⟨v, h1, h2⟩ := h; exact ⟨v, h1.mono hb, h2⟩
theorem URel.settle {β : List Nat} {u : U} {m : FrameMode} (h : URel ρ β u m) : URel ρ β u.settle (settle m) := by
  cases u with
  | ret => simp only [URel] at h; subst h; rfl
  | pan s r =>
    obtain ⟨v, h1, rfl⟩ := h
    cases r
    · exact ⟨v, h1, rfl⟩
    · rfl
theorem URel.ne_run {β : List Nat} {u : U} {m : FrameMode} (h : URel ρ β u m) : m ≠ .run := by
  cases u with
  | ret => simp only [URel] at h; subst h; simp
  | pan s r => obtain ⟨v, _, rfl⟩ := h; simp
def DPost (ρ : Env) (w0 : World) (own : Own) (β : List Nat) (L : U × List SO × List E → Prop) (e : Ending) (m : FrameMode) (w' : World) : Prop :=
  ∃ u h p β' v, e = .returned v ∧ L (u, h, p) ∧ β <+: β' ∧ HRel ρ w0 own h β' w' ∧ ρ.Path p ∧ URel ρ β' u m

theorem enter_rel {fn : Func} {args : List SV} {h : List SO} {p : List E} {β : List Nat} {w : World} {vals : Array Value} (H : HRel ρ w0 own h β w) (hp : ρ.Path p) (hargs : RelL ρ β args vals.toList) :
    Rel ρ w0 own (enterS fn args h p) β { tmps := vals ++ Array.replicate (fn.ntmps - vals.size) undef, defers := [] } w := by
  have hargl : args.length = vals.size := by simpa using hargs.length
  refine ⟨?_, rfl, H, hp⟩
  simp only [enterS, hargl]
  have key : ∀ (args : List SV) (i : Nat) (vs : List Value) (t : TT), RelL ρ β args vs → (∀ k v, vs[k]? = some v → (vals ++ Array.replicate (fn.ntmps - vals.size) undef)[i + k]? = some v) →
      (∀ k v, (vals ++ Array.replicate (fn.ntmps - vals.size) undef)[k]? = some v → (k < i ∨ i + vs.length ≤ k) → (t.get k).rel ρ β v) →
      ∀ k v, (vals ++ Array.replicate (fn.ntmps - vals.size) undef)[k]? = some v → ((putArgs i args t).get k).rel ρ β v := by
    intro args
    induction args with
    | nil =>
      intro i vs t hr hv ht k v hk
      simp only [RelL] at hr; subst hr
      exact ht k v hk (by simp; omega)
    | cons s args ih =>
      intro i vs t hr hv ht k v hk
      obtain ⟨x, r, rfl, h1, h2⟩ := hr
      simp only [putArgs]
      refine ih (i + 1) r _ h2 (fun k u hu => by have := hv (k + 1) u (by simpa using hu); rw [← this]; congr 1; omega) (fun k u hu hlt => ?_) k v hk
      rcases TT.get_set s t i k with e | e
      · rw [e]; trivial
      · rw [e]
        split
        · rename_i hik; subst hik
          have := hv 0 x (by simp)
          simp only [Nat.add_zero] at this
          rw [this] at hu; simp only [Option.some.injEq] at hu; subst hu
          exact h1
        · exact ht k u hu (by simp; omega)
  refine ⟨by simp, key args 0 vals.toList _ hargs (fun k v hk => ?_) (fun k v hk hlt => ?_)⟩
  · have hlt : k < vals.size := by have := (List.getElem?_eq_some_iff.1 hk).1; simpa using this
    rw [Nat.zero_add, Array.getElem?_append_left hlt]
    simpa using hk
  · have hge : vals.size ≤ k := by simpa using hlt
    rw [Array.getElem?_append_right hge] at hk
    have hu : v = undef := by
      have := (Array.getElem?_eq_some_iff.1 hk)
      obtain ⟨h1, h2⟩ := this
      simpa using h2.symm
    rcases TT.get_full (.tup .nil) (Nat.log2 (vals.size + (fn.ntmps - vals.size)) + 1) k with e | e
    · rw [e, hu]; exact undef_rel β
    · rw [e]; trivial

theorem results_slots {fn : Func} {t1 t2 : Array Value} (h : ∀ t ∈ resSlots fn, t1.getD t undef = t2.getD t undef) : results fn t1 = results fn t2 := by
  unfold results
  congr 1
  rw [← Array.toArray_toList (xs := fn.results), List.mapM_toArray, List.mapM_toArray]
  congr 1
  revert h
  unfold resSlots
  generalize fn.results.toList = rs
  intro h
  induction rs with
  | nil => rfl
  | cons r rs ih =>
    have h0 := h _ (List.mem_cons_self ..)
    simp only [List.mapM_cons]
    rw [ih (fun t ht => h t (List.mem_cons_of_mem _ ht))]
    cases r with
    | tmp t => simp only at h0; simp only [h0]
    | cell t ty => simp only at h0; simp only [h0]
end Go.Sx
