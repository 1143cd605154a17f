/- Deferred calls, and calls at all: soundness. -/
import Derived.Test.YtpamdmikdnoplaaSxJ
import Derived.Recover
namespace Go.Sx
set_option linter.unusedVariables false
variable {P : Program} {ρ : Env} {w0 : World} {own : Own}

theorem leaves_congr {fn : Func} {t1 t2 : Array Value} (h : results fn t1 = results fn t2) {R : Ending → World → Prop} : ∀ (ds : List Deferred) (u : FrameMode) (w : World), Leaves P fn t1 R ds u w → Leaves P fn t2 R ds u w
  | [], .returning, w, hl => by obtain ⟨v, h1, h2⟩ := hl; exact ⟨v, h ▸ h1, h2⟩
  | [], .panicking c, w, hl => hl
  | [], .run, w, hl => hl
  | d :: ds, u, w, hl => by
    obtain ⟨h1, fv, cap, f, args, h2, h3, h4⟩ := hl
    refine ⟨h1, fv, cap, f, args, h2, h3, h4.mono fun e u' w' he => ?_⟩
    cases e with
    | returned v => exact leaves_congr h ds _ _ he
    | panicked c => exact leaves_congr h ds _ _ he
    | outgrown => exact he

theorem panicOk_D {fn : Func} {R : Ending → World → Prop} : PanicOk (resSlots fn) (bodyPostD P fn R) := by
  intro c a a' w hd ht hq
  show Leaves P fn a'.tmps R a'.defers (.panicking c) w
  rw [← hd]
  exact leaves_congr (results_slots ht) _ _ _ hq

theorem recovers_sound {c : Code} {dst : Option Tmp} {rest : Code} (h : recovers c = some (dst, rest)) :
    ∃ id o as ats, c = .seq (.region id #[o] false) rest ∧ o.dst = dst ∧ o.guard = none ∧ o.op = .call { callee := .builtin .recover, args := as, argTypes := ats } := by
  unfold recovers at h
  split at h
  · rename_i id ops rest'
    split at h
    · rename_i o ho
      split at h
      · rename_i as ats h1 h2
        simp only [Option.some.injEq, Prod.mk.injEq] at h
        obtain ⟨rfl, rfl⟩ := h
        have : ops = #[o] := by rw [← Array.toArray_toList (xs := ops), ho]
        exact ⟨id, o, as, ats, by rw [this], rfl, h2, h1⟩
      · simp at h
    · simp at h
  · simp at h

theorem run_recover {o : Oper} {as : Array Operand} {ats : Array TypeId} (h : o.op = .call { callee := .builtin .recover, args := as, argTypes := ats }) (e : Operand → Value) (w : World) :
    (execOp e o).run P w = .ok .recover w := by
  obtain ⟨dst, op, type, pos, after, guard⟩ := o
  simp only at h; subst h
  simp [execOp, resolve, invoke, builtin]

theorem evD_sound {K : CallK} (hK : ∀ w0 own, CallOk P ρ w0 own K) {N : Nat} {f : FuncId} {args : List SV} {h : List SO} {p : List E} {u : U} {L : U × List SO × List E → Prop} (hs : (evD P K N f args h p u).Sat ρ L)
    {β : List Nat} {w : World} {vals : Array Value} {m : FrameMode} (H : HRel ρ w0 own h β w) (hp : ρ.Path p) (hargs : RelL ρ β args vals.toList) (hu : URel ρ β u m) :
    CallsD P f vals m w (DPost ρ w0 own β L) := by
  unfold evD at hs
  split at hs
  · rename_i fn hfn
    split at hs
    · rename_i c hc
      have hn : h.length = β.length := H.len.symm
      have R0 := enter_rel (fn := fn) H hp hargs
      split at hs
      · rename_i dst rest hrec
        obtain ⟨id, o, as, ats, rfl, hdst, hgd, hop⟩ := recovers_sound hrec
        refine callsD_of_wpS hfn hc fun c₀ cs hm => ?_
        refine wpS_seq (wpS_region ?_)
        have hrun := fun (e : Operand → Value) => run_recover (P := P) hop e w
        -- what it recovers
        obtain ⟨v, m', hv, hm', hrd⟩ : ∃ v m', u.recover.1.rel ρ β v ∧ URel ρ β u.recover.2 m' ∧
            (match recoverD (c₀ :: cs) with | some (v', cs') => v' = v ∧ cs' = { c₀ with mode := m' } :: cs | none => v = .nilIface ∧ m' = m) := by
          cases u with
          | ret =>
            simp only [URel] at hu; subst hu
            exact ⟨.nilIface, .returning, rfl, rfl, by simp [recoverD, hm]⟩
          | pan s r =>
            obtain ⟨v, hv, rfl⟩ := hu
            cases r with
            | false => exact ⟨v, .panicking [{ v, recovered := true }], hv, ⟨v, hv, rfl⟩, by simp [recoverD, hm]⟩
            | true => exact ⟨.nilIface, .panicking [{ v, recovered := true }], rfl, ⟨v, hv, rfl⟩, by simp [recoverD, hm]⟩
        have body : ∀ cs', cs' = { c₀ with mode := m' } :: cs → rest.wpS P (bodyPostS P fn c₀ cs (DPost ρ w0 own β L)) (({ tmps := vals ++ Array.replicate (fn.ntmps - vals.size) undef, defers := [] } : Act).put o.dst v) cs' w := by
          rintro cs' rfl
          refine wpS_of_wp (evCode_sound (S := resSlots fn) hK rest ?_ (by rw [hdst]; exact R0.put dst hv) ((Tree.sat_bind hs).mono fun xs hxs => ?_))
          · intro ch a a' w' ha _ hq
            exact ⟨ha ▸ hq.1, hq.2⟩
          · obtain ⟨x, st'⟩ := xs
            intro β' a' w' hb R' e he
            have hdf : st'.defers = [] → a'.defers = [] := fun h0 => by have := R'.df; rw [h0] at this; exact this
            simp only [leaveD] at hxs
            split at hxs
            · rename_i hd
              simp only [XRel] at he; subst he
              split at hxs
              · rename_i l hl
                obtain ⟨rv, _, hr⟩ := results_sound R' hl
                obtain ⟨β'', g1, g2, _⟩ := leaveV_sound hn hb R'.hp (undef_rel β')
                exact ⟨hdf hd, m', rfl, rv, hr, _, _, _, β'', rv, rfl, hxs, g1, g2, R'.pa, hm'.mono g1⟩
              · exact hxs.elim
            · rename_i hd
              simp only [XRel] at he; subst he
              split at hxs
              · rename_i l hl
                obtain ⟨rv, _, hr⟩ := results_sound R' hl
                obtain ⟨β'', g1, g2, _⟩ := leaveV_sound hn hb R'.hp (undef_rel β')
                exact ⟨hdf hd, m', rfl, rv, hr, _, _, _, β'', rv, rfl, hxs, g1, g2, R'.pa, hm'.mono g1⟩
              · exact hxs.elim
            · exact hxs.elim
        have h0 : (#[o] : Array Oper)[0]? = some o := rfl
        have hw : Region.wanted o (yielded #[o] ({ tmps := vals ++ Array.replicate (fn.ntmps - vals.size) undef, defers := [] } : Act).tmps) = true := by simp [Region.wanted, hgd]
        show wpOpsS P #[o] _ [0] _ _ _
        simp only [wpOpsS, h0, hw, if_true, hrun]
        split
        · rename_i v' cs' hr
          rw [hr] at hrd
          obtain ⟨rfl, rfl⟩ := hrd
          exact body _ rfl
        · rename_i hr
          rw [hr] at hrd
          obtain ⟨rfl, rfl⟩ := hrd
          exact body _ (by rw [← hm])
      · refine (callsD_of_wp hfn hc (R := fun e w' => DPost ρ w0 own β L e m w') (evCode_sound (S := resSlots fn) hK c ?_ R0 ((Tree.sat_bind hs).mono fun xs hxs => ?_))).mono fun e u' w' he => by obtain ⟨rfl, he⟩ := he; exact he
        · intro ch a a' w' ha _ hq
          exact ⟨ha ▸ hq.1, hq.2⟩
        · obtain ⟨x, st'⟩ := xs
          intro β' a' w' hb R' e he
          have hdf : st'.defers = [] → a'.defers = [] := fun h0 => by have := R'.df; rw [h0] at this; exact this
          simp only [leaveD] at hxs
          split at hxs
          · rename_i hd
            simp only [XRel] at he; subst he
            split at hxs
            · rename_i l hl
              obtain ⟨rv, _, hr⟩ := results_sound R' hl
              obtain ⟨β'', g1, g2, _⟩ := leaveV_sound hn hb R'.hp (undef_rel β')
              exact ⟨hdf hd, rv, hr, _, _, _, β'', rv, rfl, hxs, g1, g2, R'.pa, hu.mono g1⟩
            · exact hxs.elim
          · rename_i hd
            simp only [XRel] at he; subst he
            split at hxs
            · rename_i l hl
              obtain ⟨rv, _, hr⟩ := results_sound R' hl
              obtain ⟨β'', g1, g2, _⟩ := leaveV_sound hn hb R'.hp (undef_rel β')
              exact ⟨hdf hd, rv, hr, _, _, _, β'', rv, rfl, hxs, g1, g2, R'.pa, hu.mono g1⟩
            · exact hxs.elim
          · exact hxs.elim
    · exact hs.elim
  · exact hs.elim

theorem evDs_sound {K : CallK} (hK : ∀ w0 own, CallOk P ρ w0 own K) {N : Nat} {fn : Func} {n0 : Nat} {β0 : List Nat} (hn0 : n0 = β0.length) {ts : TT} {nt : Nat} {tmps : Array Value} {L : Out × List SO × List E → Prop} :
    ∀ (ds : List (FuncId × List SV × List SV)) {u : U} {h : List SO} {p : List E} {β : List Nat} {w : World} {m : FrameMode} {vds : List Deferred}, (evDs P K N fn n0 ts nt ds u h p).Sat ρ L → β0 <+: β →
    TRel ρ β ts nt tmps → RelD ρ β ds vds → HRel ρ w0 own h β w → ρ.Path p → URel ρ β u m → Leaves P fn tmps (CallPost ρ w0 own β0 L) vds m w
  | [], u, h, p, β, w, m, vds, hs, hb, ht, hd, H, hp, hu => by
    simp only [RelD] at hd; subst hd
    cases u with
    | ret =>
      simp only [URel] at hu; subst hu
      simp only [evDs] at hs
      split at hs
      · rename_i l hl
        have R : Rel ρ w0 own { tmps := ts, nt, defers := [], heap := h, path := p } β { tmps, defers := [] } w := ⟨ht, rfl, H, hp⟩
        obtain ⟨v, hv, hr⟩ := results_sound R hl
        obtain ⟨β'', g1, g2, g3⟩ := leaveV_sound hn0 hb H hv
        exact ⟨v, hr, _, _, _, β'', hs, g1, g2, hp, v, g3, rfl⟩
      · exact hs.elim
    | pan s r =>
      obtain ⟨v, hv, rfl⟩ := hu
      cases r with
      | false =>
        simp only [evDs] at hs
        obtain ⟨β'', g1, g2, g3⟩ := leaveV_sound hn0 hb H hv
        exact ⟨_, _, _, β'', hs, g1, g2, hp, v, g3, rfl⟩
      | true => exact hs.elim
  | (f, a, c) :: ds, u, h, p, β, w, m, vds, hs, hb, ht, hd, H, hp, hu => by
    obtain ⟨va, vc, r, rfl, ha, hc, hr⟩ := hd
    simp only [evDs] at hs
    split at hs
    · rename_i g hg
      split at hs
      · exact hs.elim
      · rename_i hbad
        simp only [Bool.or_eq_true, not_or, Bool.not_eq_true] at hbad
        refine leaves_cons hu.ne_run (f := f) (args := va ++ vc) ?_ ?_
        · simp only [invoke]; exact run_callFunc hg hbad.1 hbad.2 _ _
        · have hargs : RelL ρ β (a ++ c) (va ++ vc).toList := by simpa using ha.append hc
          refine (evD_sound hK (Tree.sat_bind hs) H hp hargs hu).mono fun e m' w' hpost => ?_
          obtain ⟨u', h', p', β', v, rfl, hL, hb', H', hp', hu'⟩ := hpost
          exact evDs_sound hK hn0 ds hL (hb.trans hb') (ht.mono hb') (hr.mono hb') H' hp' hu'.settle
    · exact hs.elim

theorem evFn_sound {C : FuncId → Option (List SV → List SO → List E → Tree (Out × List SO × List E))} (hC : ∀ f c, C f = some c → ∀ w0 own, CtrOk P ρ w0 own f c) {N : Nat} : ∀ n w0 own, CallOk P ρ w0 own (evFn P C N n)
  | 0, _, _, f, args, h, p, L, hs, _, _, _, _, _, _ => hs.elim
  | n + 1, w0, own, f, args, h, p, L, hs, β, w, vals, H, hp, hargs => by
    simp only [evFn] at hs
    split at hs
    · rename_i c hc
      exact hC f c hc w0 own args h p L hs β w vals H hp hargs
    · split at hs
      · rename_i fn hfn
        split at hs
        · rename_i c hc
          refine calls_of_wp_defers hfn hc (evCode_sound (S := resSlots fn) (evFn_sound hC n) c panicOk_D (enter_rel H hp hargs) ((Tree.sat_bind hs).mono fun xs hxs => ?_))
          obtain ⟨x, st'⟩ := xs
          intro β' a' w' hb R' e he
          have hn : h.length = β.length := H.len.symm
          cases x with
          | normal => simp only [XRel] at he; subst he; exact evDs_sound (evFn_sound hC n) hn _ hxs hb R'.tm R'.df R'.hp R'.pa rfl
          | ret => simp only [XRel] at he; subst he; exact evDs_sound (evFn_sound hC n) hn _ hxs hb R'.tm R'.df R'.hp R'.pa rfl
          | panic s =>
            obtain ⟨v, hv, rfl⟩ := he
            exact evDs_sound (evFn_sound hC n) hn _ hxs hb R'.tm R'.df R'.hp R'.pa ⟨v, hv, rfl⟩
          | exit id => exact hxs.elim
          | goto l => exact hxs.elim
        · exact hs.elim
      · exact hs.elim
end Go.Sx
