/- A region whose order is open, run on what is known in part: soundness. -/
import Derived.Test.YtpamdmikdnoplaaSxI
namespace Go.Sx
set_option linter.unusedVariables false
variable {P : Program} {ρ : Env} {w0 : World} {own : Own}

theorem exact_both {β : List Nat} (s : SV) : s.exact = true → (∀ v v', s.rel ρ β v → s.rel ρ β v' → v = v') ∧ (∀ vs vs', s.relS ρ β vs → s.relS ρ β vs' → vs = vs') := by
  induction s with
  | ptr i o =>
    intro _
    refine ⟨fun v v' h h' => ?_, by simp [SV.relS]⟩
    simp only [SV.rel] at *
    obtain ⟨b, h1, rfl⟩ := h; obtain ⟨b', h1', rfl⟩ := h'
    rw [h1] at h1'; simp only [Option.some.injEq] at h1'; rw [h1']
  | map i =>
    intro _
    refine ⟨fun v v' h h' => ?_, by simp [SV.relS]⟩
    simp only [SV.rel] at *
    obtain ⟨b, h1, rfl⟩ := h; obtain ⟨b', h1', rfl⟩ := h'
    rw [h1] at h1'; simp only [Option.some.injEq] at h1'; rw [h1']
  | slc i o n c =>
    intro _
    refine ⟨fun v v' h h' => ?_, by simp [SV.relS]⟩
    simp only [SV.rel] at *
    obtain ⟨b, h1, n1, c1, e1, e2, rfl⟩ := h; obtain ⟨b', h1', n2, c2, e1', e2', rfl⟩ := h'
    rw [h1] at h1'; simp only [Option.some.injEq] at h1'
    have : n1 = n2 := by rw [e1] at e1'; exact Int.ofNat.inj e1'
    have : c1 = c2 := by rw [e2] at e2'; exact Int.ofNat.inj e2'
    subst_vars; rfl
  | fn g c ih =>
    intro h0
    refine ⟨fun v v' h h' => ?_, by simp [SV.relS]⟩
    simp only [SV.rel] at *
    obtain ⟨b, h1, rfl⟩ := h; obtain ⟨b', h1', rfl⟩ := h'
    rw [(ih h0).2 _ _ h1 h1']
  | ptrx i base stride cnt e =>
    intro h0
    refine ⟨fun v v' h h' => ?_, by simp [SV.relS]⟩
    simp only [SV.rel] at *
    obtain ⟨b, h1, _, _, rfl⟩ := h; obtain ⟨b', h1', _, _, rfl⟩ := h'
    rw [h1] at h1'; simp only [Option.some.injEq] at h1'; rw [h1']
  | ifc t x ih =>
    intro h0
    refine ⟨fun v v' h h' => ?_, by simp [SV.relS]⟩
    simp only [SV.rel] at *
    obtain ⟨b, h1, rfl⟩ := h; obtain ⟨b', h1', rfl⟩ := h'
    rw [(ih h0).1 _ _ h1 h1']
  | agg l ih =>
    intro h0
    refine ⟨fun v v' h h' => ?_, by simp [SV.relS]⟩
    simp only [SV.rel] at *
    obtain ⟨b, h1, rfl⟩ := h; obtain ⟨b', h1', rfl⟩ := h'
    rw [(ih h0).2 _ _ h1 h1']
  | tup l ih =>
    intro h0
    refine ⟨fun v v' h h' => ?_, by simp [SV.relS]⟩
    simp only [SV.rel] at *
    obtain ⟨b, h1, rfl⟩ := h; obtain ⟨b', h1', rfl⟩ := h'
    rw [(ih h0).2 _ _ h1 h1']
  | cond g x ih => intro h; simp [SV.exact] at h
  | unk => intro h; simp [SV.exact] at h
  | cons a l iha ihl =>
    intro h0
    simp only [SV.exact, Bool.and_eq_true] at h0
    refine ⟨by simp [SV.rel], fun vs vs' h h' => ?_⟩
    simp only [SV.relS] at *
    obtain ⟨v, r, rfl, h1, h2⟩ := h; obtain ⟨v', r', rfl, h1', h2'⟩ := h'
    rw [(iha h0.1).1 _ _ h1 h1', (ihl h0.2).2 _ _ h2 h2']
  | nil => intro _; refine ⟨by simp [SV.rel], fun vs vs' h h' => ?_⟩; simp only [SV.relS] at *; rw [h, h']
  | _ =>
    intro _
    refine ⟨fun v v' h h' => ?_, by simp [SV.relS]⟩
    simp only [SV.rel] at *
    rw [h, h']
theorem exactL_rel {β : List Nat} : ∀ {l : List SV} {vs vs' : List Value}, exactL l = true → RelL ρ β l vs → RelL ρ β l vs' → vs = vs'
  | [], _, _, _, h, h' => by simp only [RelL] at h h'; rw [h, h']
  | a :: l, _, _, h0, h, h' => by
    simp only [exactL, Bool.and_eq_true] at h0
    obtain ⟨v, r, rfl, h1, h2⟩ := h; obtain ⟨v', r', rfl, h1', h2'⟩ := h'
    rw [(exact_both a h0.1).1 _ _ h1 h1', exactL_rel h0.2 h2 h2']

/-- What stood there, as the model has it. -/
structure CE where
  i : Nat
  b : Nat
  off : Nat
  vs : List Value
def CE.holds (x : CE) (w : World) : Prop := ∃ C t fz, w.heap[x.b]? = some (.cells C t fz) ∧ (C.toList.drop x.off).take x.vs.length = x.vs
def HeldRel (ρ : Env) (β : List Nat) : Held → List CE → Prop
  | [], cs => cs = []
  | x :: R, cs => (x.g.denB ρ = true ∧ ∃ c r, cs = c :: r ∧ β[x.blk]? = some c.b ∧ c.off = x.off ∧ c.i = x.i ∧ RelL ρ β x.l c.vs ∧ exactL x.l = true ∧ HeldRel ρ β R r) ∨ (x.g.denB ρ = false ∧ HeldRel ρ β R cs)
theorem HeldRel.mono {β β' : List Nat} (hb : β <+: β') : ∀ {R : Held} {cs : List CE}, HeldRel ρ β R cs → HeldRel ρ β' R cs
  | [], _, h => h
  | x :: R, _, h => by
    rcases h with ⟨h0, c, r, rfl, h1, h2, h3, h4, h5, h6⟩ | ⟨h0, h⟩
    · exact .inl ⟨h0, c, r, rfl, pre_get hb h1, h2, h3, h4.mono hb, h5, h6.mono hb⟩
    · exact .inr ⟨h0, h.mono hb⟩
def SJ (ops : Array Oper) (CR : List CE) (j : Nat) (w : World) : Prop := ∀ x ∈ CR, ¬ Waits .any ops x.i j → x.holds w

theorem inM_sub {m mask : Nat} (h : inM m mask = true) (k : Nat) (hk : m.testBit k = true) : mask.testBit k = true := by
  have h1 : m &&& mask = m := Nat.eq_of_beq_eq_true h
  have := Nat.testBit_and m mask k
  rw [h1, hk] at this
  simpa using this.symm
theorem inM_of {m mask : Nat} (h : ∀ k, m.testBit k = true → mask.testBit k = true) : inM m mask = true := by
  have h1 : m &&& mask = m := by
    apply Nat.eq_of_testBit_eq
    intro k
    rw [Nat.testBit_and]
    cases hk : m.testBit k
    · rfl
    · simp [h k hk]
  show Nat.beq (m &&& mask) m = true
  rw [h1]
  exact Nat.beq_refl m
theorem testBit_or1 (mask i k : Nat) : (Nat.lor mask (Nat.pow 2 i)).testBit k = (mask.testBit k || decide (i = k)) := by
  show (mask ||| 2 ^ i).testBit k = _
  rw [Nat.testBit_or, Nat.testBit_two_pow]
theorem testBit_1or (mask i k : Nat) : (Nat.lor (Nat.pow 2 i) mask).testBit k = (decide (i = k) || mask.testBit k) := by
  show (2 ^ i ||| mask).testBit k = _
  rw [Nat.testBit_or, Nat.testBit_two_pow]

theorem stays_sound {m : Nat} {h : List SO} {β : List Nat} {w : World} (H : HRel ρ w0 own h β w) : ∀ {R : Held} {CR : List CE}, stays m h R = true → HeldRel ρ β R CR → ∀ x ∈ CR, m.testBit x.i = true ∨ x.holds w
  | [], _, _, h2 => by simp only [HeldRel] at h2; subst h2; simp
  | y :: R, _, h1, h2 => by
    simp only [stays, Bool.and_eq_true, Bool.or_eq_true] at h1
    rcases h2 with ⟨_, c, r, rfl, g1, g2, g3, g4, g5, g6⟩ | ⟨_, h2⟩
    rotate_left
    · exact stays_sound H h1.2 h2
    intro x hx
    rcases List.mem_cons.1 hx with rfl | hx
    · rcases h1.1 with hm | hm
      · left
        rw [g3]
        exact inM_sub hm _ (by show (2 ^ y.i).testBit y.i = true; simp)
      · right
        split at hm
        · rename_i ro l t hl
          simp only [decide_eq_true_eq] at hm
          obtain ⟨vs, fz, e1, e2, _⟩ := H.holds _ _ _ hl g1
          refine ⟨vs.toArray, t, fz, e2, ?_⟩
          have h3 := (e1.drop y.off).take y.l.length
          rw [hm] at h3
          have := exactL_rel g5 h3 g4
          rw [g2, ← g4.length]
          exact this
        · simp at hm
    · exact stays_sound H h1.2 g6 x hx

theorem run_loadPart {t : TypeId} {l : List SV} {off : Nat} {s : SV} (hle : off + P.cellsOf t ≤ l.length) (h1 : 1 ≤ P.cellsOf t) (hs : partS P t l off = some s) {β : List Nat} {vs : List Value} (hr : RelL ρ β l vs) (b : Nat) :
    ∃ u, s.rel ρ β u ∧ ∀ w, (CE.mk 0 b off ((vs.drop off).take (P.cellsOf t))).holds w → (Instr.loadAt t (.pointer (some ⟨b, off, none⟩))).run P w = .ok u w := by
  have hlen := hr.length
  have hn : ((vs.drop off).take (P.cellsOf t)).length = P.cellsOf t := by simp; omega
  have cells : ∀ w, (CE.mk 0 b off ((vs.drop off).take (P.cellsOf t))).holds w → ∀ j v, ((vs.drop off).take (P.cellsOf t))[j]? = some v → w.cell? ⟨b, off + j, none⟩ = some v := by
    intro w hw j v hj
    obtain ⟨C, et, fz, hC, hsl⟩ := hw
    simp only at hC hsl
    rw [hn] at hsl
    rw [cell_of_row w b (off + j) _ et fz hC]
    rw [← hsl] at hj
    rw [List.getElem?_take] at hj
    split at hj
    · rw [List.getElem?_drop] at hj; simpa using hj
    · simp at hj
  have agg : ∀ d, P.underlying t = some d → d.isRow = true → (P.info? t).isSome = true → ∀ w, (CE.mk 0 b off ((vs.drop off).take (P.cellsOf t))).holds w → (loadVar t ⟨b, off, none⟩).run P w = .ok (.agg ((vs.drop off).take (P.cellsOf t)).toArray) w := fun d hu hd hi' w hw => by
    refine run_loadVar_mid w b off t _ d (cells w hw) hu hd ?_
    obtain ⟨ti, hti⟩ := Option.isSome_iff_exists.1 hi'
    simp [hti, Program.cellsOf] at hle ⊢
    omega
  simp only [Instr.loadAt, Instr.sureAddr, Sem.run_bind, Sem.run_pure, Result.andThen_ok]
  unfold partS at hs
  split at hs
  · rename_i fs hu
    split at hs
    · rename_i hi'
      simp only [Bool.and_eq_true, decide_eq_true_eq] at hi'
      simp only [Option.some.injEq] at hs; subst hs
      exact ⟨_, ⟨_, relS_ofL ((hr.drop off).take _), rfl⟩, agg _ hu rfl hi'.1⟩
    · simp at hs
  · rename_i n e hu
    split at hs
    · rename_i hi'
      simp only [Bool.and_eq_true, decide_eq_true_eq] at hi'
      simp only [Option.some.injEq] at hs; subst hs
      exact ⟨_, ⟨_, relS_ofL ((hr.drop off).take _), rfl⟩, agg _ hu rfl hi'.1⟩
    · simp at hs
  · rename_i d hn1 hn2 hu
    obtain ⟨u, hu1, hu2⟩ := hr.get hs
    have hd : d.isRow = false := by
      cases d <;> first | rfl | (exfalso; first | exact hn1 _ rfl | exact hn2 _ _ rfl)
    refine ⟨u, hu2, fun w hw => ?_⟩
    simp only [loadVar, Sem.run_bind, run_isAgg' hu, hd, Result.andThen_ok, Bool.false_eq_true, if_false]
    have hj : ((vs.drop off).take (P.cellsOf t))[0]? = some u := by
      rw [List.getElem?_take_of_lt (by omega), List.getElem?_drop]; simpa using hu1
    have := cells w hw 0 u hj
    simp only [Nat.add_zero] at this
    rw [run_load, this]
  · simp at hs

/-- An operation that is taken first. -/
def Took (P : Program) (ρ : Env) (ops : Array Oper) (β : List Nat) (w : World) (i : Nat) (o : Oper) (CR : List CE) (s : SV) (R' : Held) (a : Act) (run : World → Value → Prop) : Prop :=
  ∃ v CR', s.rel ρ β v ∧ HeldRel ρ β R' CR' ∧ (∀ x ∈ CR, x ∈ CR') ∧ ∃ Si : World → Prop, Si w ∧ ((∀ j u, ¬ Waits .any ops i j → SJ ops CR' j u → Si u) ∧ ∀ u u', Ext u u' → Si u → Si u') ∧ ∀ u, Si u → run u v

theorem evHeld_sound {ops : Array Oper} {st : St} {β : List Nat} {a : Act} {w : World} (R : Rel ρ w0 own st β a w) {path : List E} (hp : ρ.Path path) {gd : E} (hgd : gd.denB ρ = true) {i : Nat} {o : Oper} {ns : List E} {s : SV} {Rh R' : Held} {CR : List CE} (hR : HeldRel ρ β Rh CR)
    (h : evHeld P st path Rh gd i o.op = some (ns, s, R')) (hn : ∀ n ∈ ns, n.denB ρ = true) : Took P ρ ops β w i o CR s R' a (fun u v => (execOp a.eval o).run P u = .ok (.value v) u) := by
  obtain ⟨dst, op, type, pos, after, guard⟩ := o
  simp only at h
  unfold evHeld at h
  split at h
  · rename_i t x
    cases hl : loadR P t st.heap Rh gd i (stripC path (st.ev x)) with
    | none => simp [hl] at h
    | some r =>
      obtain ⟨s', R''⟩ := r
      simp only [hl, Option.map_some, Option.some.injEq, Prod.mk.injEq] at h
      obtain ⟨rfl, rfl, rfl⟩ := h
      have hx := stripC_rel hp (R.ev x)
      unfold loadR at hl
      split at hl
      · rename_i k off hk
        rw [hk] at hx
        simp only [SV.rel] at hx
        obtain ⟨b, hb, hx⟩ := hx
        split at hl
        · rename_i ro l et hh
          split at hl
          · rename_i hc
            simp only [Bool.and_eq_true] at hc
            cases hpt : partS P t l off with
            | none => simp [hpt] at hl
            | some s1 =>
              simp only [hpt, Option.map_some, Option.some.injEq, Prod.mk.injEq] at hl
              obtain ⟨rfl, rfl⟩ := hl
              obtain ⟨vs, fz, e1, e2, _⟩ := R.hp.holds k _ b hh hb
              have hle : off + P.cellsOf t ≤ l.length := Nat.le_of_ble_eq_true hc.1.1
              obtain ⟨u, hu1, hu2⟩ := run_loadPart hle (Nat.le_of_ble_eq_true hc.1.2) hpt e1 b
              refine ⟨u, { i, b, off, vs := (vs.drop off).take (P.cellsOf t) } :: CR, hu1, .inl ⟨hgd, _, CR, rfl, hb, rfl, rfl, (e1.drop off).take _, hc.2, hR⟩, fun y hy => List.mem_cons_of_mem _ hy,
                (CE.mk 0 b off ((vs.drop off).take (P.cellsOf t))).holds, ?_, ?_, ?_⟩
              · refine ⟨_, _, _, e2, ?_⟩
                have hlen := e1.length
                have : ((vs.drop off).take (P.cellsOf t)).length = P.cellsOf t := by simp; omega
                simp only [this]
              · refine ⟨fun j y hw hs => hs { i, b, off, vs := (vs.drop off).take (P.cellsOf t) } (List.mem_cons_self ..) hw, fun u u' he hu => ?_⟩
                obtain ⟨C, t', fz', g1, g2⟩ := hu
                exact ⟨C, t', fz', he _ _ g1, g2⟩
              · intro y hy
                simp only [execOp, hx, Sem.run_bind, hu2 y hy, Result.andThen_ok, Sem.run_pure]
                try rfl
          · simp at hl
        · simp at hl
      · rename_i k base stride cnt e hk
        rw [hk] at hx
        simp only [SV.rel] at hx
        obtain ⟨b, hb, he0, he1, hx⟩ := hx
        split at hl
        · rename_i ro l et hh
          split at hl
          · rename_i hc
            simp only [Bool.and_eq_true] at hc
            cases hpt : loadX P t l base stride cnt e with
            | none => simp [hpt] at hl
            | some s1 =>
              simp only [hpt, Option.map_some, Option.some.injEq, Prod.mk.injEq] at hl
              obtain ⟨rfl, rfl⟩ := hl
              obtain ⟨vs, fz, e1, e2, _⟩ := R.hp.holds k _ b hh hb
              have hcnt : 1 ≤ cnt := Nat.le_of_ble_eq_true hc.1.1
              have hle : base + (stride * (cnt - 1) + P.cellsOf t) ≤ l.length := Nat.le_of_ble_eq_true hc.1.2
              have hlen := e1.length
              obtain ⟨n, hn⟩ : ∃ n : Nat, e.den ρ = n := ⟨(e.den ρ).toNat, by omega⟩
              rw [hn] at he1 hx
              simp only [Int.toNat_natCast] at hx
              have hncnt : n < cnt := by omega
              have hmul : stride * n ≤ stride * (cnt - 1) := Nat.mul_le_mul_left _ (by omega)
              obtain ⟨_, _, u, hu1, hu2⟩ := run_loadX (P := P) hn hncnt hpt e1 b
              have hlv : ((vs.drop base).take (stride * (cnt - 1) + P.cellsOf t)).length = stride * (cnt - 1) + P.cellsOf t := by simp; omega
              refine ⟨u, { i, b, off := base, vs := (vs.drop base).take (stride * (cnt - 1) + P.cellsOf t) } :: CR, hu1, .inl ⟨hgd, _, CR, rfl, hb, rfl, rfl, (e1.drop base).take _, hc.2, hR⟩, fun y hy => List.mem_cons_of_mem _ hy,
                (CE.mk 0 b base ((vs.drop base).take (stride * (cnt - 1) + P.cellsOf t))).holds, ?_, ?_, ?_⟩
              · refine ⟨_, _, _, e2, ?_⟩
                simp only [hlv]
              · refine ⟨fun j y hw hs => hs { i, b, off := base, vs := (vs.drop base).take (stride * (cnt - 1) + P.cellsOf t) } (List.mem_cons_self ..) hw, fun u u' he hu => ?_⟩
                obtain ⟨C, t', fz', g1, g2⟩ := hu
                exact ⟨C, t', fz', he _ _ g1, g2⟩
              · intro y hy
                have hcell : ∀ j v, ((vs.drop (base + stride * n)).take (P.cellsOf t))[j]? = some v → y.cell? ⟨b, base + stride * n + j, none⟩ = some v := by
                  intro j v hj
                  obtain ⟨C, t', fz', hC, hsl⟩ := hy
                  simp only at hC hsl
                  rw [hlv] at hsl
                  rw [cell_of_row y b _ _ t' fz' hC]
                  rw [List.getElem?_take] at hj
                  split at hj
                  · rename_i hjt
                    rw [List.getElem?_drop] at hj
                    have h3 : ((vs.drop base).take (stride * (cnt - 1) + P.cellsOf t))[stride * n + j]? = some v := by
                      rw [List.getElem?_take_of_lt (by omega), List.getElem?_drop, ← Nat.add_assoc]; exact hj
                    rw [← hsl, List.getElem?_take_of_lt (by omega), List.getElem?_drop, ← Nat.add_assoc] at h3
                    simpa using h3
                  · simp at hj
                simp only [execOp, hx, Sem.run_bind, hu2 y hcell, Result.andThen_ok, Sem.run_pure]
                try rfl
          · simp at hl
        · simp at hl
      · simp at hl
  · cases he : evPure P path st.ev op with
    | none => simp [he] at h
    | some r =>
      obtain ⟨ns', s'⟩ := r
      simp only [he, Option.map_some, Option.some.injEq, Prod.mk.injEq] at h
      obtain ⟨rfl, rfl, rfl⟩ := h
      obtain ⟨v, hv, hrun⟩ := evPure_sound hp R.ev (o := ⟨dst, op, type, pos, after, guard⟩) he hn
      exact ⟨v, CR, hv, hR, fun y hy => hy, fun _ => True, trivial, ⟨fun _ _ _ _ => trivial, fun _ _ _ _ => trivial⟩, fun u _ => hrun u⟩

/-- Where the guard does not hold nothing new is held. -/
theorem evHeld_off {st : St} {β : List Nat} {path : List E} {gd : E} (hgd : gd.denB ρ = false) {i : Nat} {op : Op} {ns : List E} {s : SV} {Rh R' : Held} {CR : List CE} (hR : HeldRel ρ β Rh CR)
    (h : evHeld P st path Rh gd i op = some (ns, s, R')) : HeldRel ρ β R' CR := by
  unfold evHeld at h
  split at h
  · rename_i t x
    cases hl : loadR P t st.heap Rh gd i (stripC path (st.ev x)) with
    | none => simp [hl] at h
    | some r =>
      obtain ⟨s', R''⟩ := r
      simp only [hl, Option.map_some, Option.some.injEq, Prod.mk.injEq] at h
      obtain ⟨rfl, rfl, rfl⟩ := h
      unfold loadR at hl
      split at hl
      · split at hl
        · split at hl
          · simp only [Option.map_eq_some_iff, Prod.mk.injEq] at hl
            obtain ⟨a, _, _, rfl⟩ := hl
            exact .inr ⟨hgd, hR⟩
          · simp at hl
        · simp at hl
      · split at hl
        · split at hl
          · simp only [Option.map_eq_some_iff, Prod.mk.injEq] at hl
            obtain ⟨a, _, _, rfl⟩ := hl
            exact .inr ⟨hgd, hR⟩
          · simp at hl
        · simp at hl
      · simp at hl
  · cases he : evPure P path st.ev op with
    | none => simp [he] at h
    | some r =>
      obtain ⟨ns', s'⟩ := r
      simp only [he, Option.map_some, Option.some.injEq, Prod.mk.injEq] at h
      obtain ⟨rfl, rfl, rfl⟩ := h
      exact hR
theorem heldStep_sound {ops : Array Oper} {st : St} {β : List Nat} {a : Act} {w : World} (R : Rel ρ w0 own st β a w) {i : Nat} {o : Oper} {ns : List E} {s : SV} {Rh R' : Held} {CR : List CE} (hR : HeldRel ρ β Rh CR)
    (h : heldStep P ops i o Rh st = some (ns, s, R')) (hn : ∀ n ∈ ns, n.denB ρ = true) :
    ∃ v CR', s.rel ρ β v ∧ HeldRel ρ β R' CR' ∧ (∀ x ∈ CR, x ∈ CR') ∧ ∃ Si : World → Prop, Si w ∧ ((∀ j u, ¬ Waits .any ops i j → SJ ops CR' j u → Si u) ∧ ∀ u u', Ext u u' → Si u → Si u') ∧ YieldsIf P ops Si o v a := by
  unfold heldStep at h
  split at h
  · rename_i hg
    cases he : evHeld P st st.path Rh tt i o.op with
    | none => rw [he] at h; simp at h
    | some r =>
      obtain ⟨ns', s', R''⟩ := r
      rw [he] at h
      simp only [Option.map_some, Option.some.injEq, Prod.mk.injEq] at h; obtain ⟨rfl, rfl, rfl⟩ := h
      obtain ⟨v, CR', g1, g2, g3, Si, g4, g5, g6⟩ := evHeld_sound (ops := ops) R R.pa (by rfl) hR he (unfilter R.pa hn)
      exact ⟨v, CR', g1, g2, g3, Si, g4, g5, .inl ⟨by simp [Region.wanted, hg], g6⟩⟩
  · rename_i j want hg
    split at h
    · simp at h
    · rename_i g hge
      have hw := guardE_sound R hg hge
      split at h
      · rename_i hd
        cases he : evHeld P st st.path Rh tt i o.op with
        | none => rw [he] at h; simp at h
        | some r =>
          obtain ⟨ns', s', R''⟩ := r
          rw [he] at h
          simp only [Option.map_some, Option.some.injEq, Prod.mk.injEq] at h; obtain ⟨rfl, rfl, rfl⟩ := h
          obtain ⟨v, CR', g1, g2, g3, Si, g4, g5, g6⟩ := evHeld_sound (ops := ops) R R.pa (by rfl) hR he (unfilter R.pa hn)
          exact ⟨v, CR', g1, g2, g3, Si, g4, g5, .inl ⟨by rw [hw, decideE_sound R.pa hd], g6⟩⟩
      · rename_i hd
        simp only [Option.some.injEq, Prod.mk.injEq] at h; obtain ⟨rfl, rfl, rfl⟩ := h
        exact ⟨undef, CR, undef_rel β, hR, fun y hy => hy, fun _ => True, trivial, ⟨fun _ _ _ _ => trivial, fun _ _ _ _ => trivial⟩, .inr ⟨by rw [hw, decideE_sound R.pa hd], rfl⟩⟩
      · cases he : evHeld P st (assumeT g st.path) Rh g i o.op with
        | none => simp [he] at h
        | some r =>
          obtain ⟨ns', s', R''⟩ := r
          simp only [he, Option.map_some, Option.some.injEq, Prod.mk.injEq] at h; obtain ⟨rfl, rfl, rfl⟩ := h
          by_cases hgt : g.denB ρ = true
          · obtain ⟨v, CR', g1, g2, g3, Si, g4, g5, g6⟩ := evHeld_sound (ops := ops) R (R.pa.assumeT hgt) hgt hR he (unfilter (R.pa.assumeT hgt) fun n hn' => by
              have := hn _ (List.mem_map.2 ⟨n, hn', rfl⟩)
              simpa [E.denB, hgt] using this)
            exact ⟨v, CR', by simp only [SV.rel]; exact ⟨fun _ => g1, fun h => by rw [hgt] at h; simp at h⟩, g2, g3, Si, g4, g5, .inl ⟨by rw [hw, hgt], g6⟩⟩
          · have hgf : g.denB ρ = false := by simpa using hgt
            exact ⟨undef, CR, by simp only [SV.rel]; exact ⟨fun h => absurd h hgt, fun _ => trivial⟩, evHeld_off hgf hR he, fun y hy => hy, fun _ => True, trivial, ⟨fun _ _ _ _ => trivial, fun _ _ _ _ => trivial⟩, .inr ⟨by rw [hw]; exact hgf, rfl⟩⟩

/- The region's table. -/
structure RIOk (ops : Array Oper) (r : RI) : Prop where
  get : ops[r.i]? = some r.o
  deps : ∀ k, r.deps.testBit k = true ↔ ∃ e ∈ r.o.after, Region.binds .any e = true ∧ e.on = k
  block : ∀ (j : Nat) (oj : Oper), ops[j]? = some oj → j ≠ r.i → r.block.testBit j = true ∨ (∃ e ∈ oj.after, Region.binds .any e = true ∧ e.on = r.i) ∨ r.o.apart ops oj = true
  tdeps : ∀ k, r.tdeps.testBit k = true → Waits .any ops k r.i
theorem depsM_bit (k : Nat) : ∀ l : List Edge, (depsM l).testBit k = true ↔ ∃ e ∈ l, Region.binds .any e = true ∧ e.on = k
  | [] => by simp [depsM]
  | e :: l => by
    simp only [depsM, List.mem_cons]
    have ih := depsM_bit k l
    split
    · rename_i hb
      rw [testBit_1or, Bool.or_eq_true, decide_eq_true_eq, ih]
      constructor
      · rintro (h | ⟨e', h1, h2⟩)
        · exact ⟨e, .inl rfl, hb, h⟩
        · exact ⟨e', .inr h1, h2⟩
      · rintro ⟨e', rfl | h1, h2⟩
        · exact .inl h2.2
        · exact .inr ⟨e', h1, h2⟩
    · rename_i hb
      rw [ih]
      constructor
      · rintro ⟨e', h1, h2⟩; exact ⟨e', .inr h1, h2⟩
      · rintro ⟨e', rfl | h1, h2⟩
        · rw [h2.1] at hb; cases hb
        · exact ⟨e', h1, h2⟩
theorem blockM_bit {ops : Array Oper} {i : Nat} {oi : Oper} : ∀ (l : List Oper) (j0 j : Nat) (oj : Oper), l[j]? = some oj → j0 + j ≠ i →
    (blockM ops i oi j0 l).testBit (j0 + j) = true ∨ (∃ e ∈ oj.after, Region.binds .any e = true ∧ e.on = i) ∨ oi.apart ops oj = true
  | [], _, _, _, h, _ => by simp at h
  | o :: l, j0, 0, oj, h, hne => by
    simp only [List.getElem?_cons_zero, Option.some.injEq] at h; subst h
    simp only [blockM, Nat.add_zero] at *
    split
    · rename_i hc
      simp only [Bool.or_eq_true] at hc
      rcases hc with (hc | hc) | hc
      · exact absurd (Nat.eq_of_beq_eq_true hc) hne
      · obtain ⟨e, he, hb⟩ := Array.any_eq_true'.1 hc
        simp only [Bool.and_eq_true] at hb
        exact .inr (.inl ⟨e, he, hb.1, Nat.eq_of_beq_eq_true hb.2⟩)
      · exact .inr (.inr hc)
    · left; rw [testBit_1or]; simp
  | o :: l, j0, j + 1, oj, h, hne => by
    simp only [List.getElem?_cons_succ] at h
    have ih := blockM_bit (ops := ops) (i := i) (oi := oi) l (j0 + 1) j oj h (by omega)
    have e : j0 + 1 + j = j0 + (j + 1) := by omega
    rw [e] at ih
    simp only [blockM]
    split
    · exact ih
    · rcases ih with ih | ih
      · left; rw [testBit_1or, ih]; simp
      · exact .inr ih
theorem lookM_bit {ops : Array Oper} {k i : Nat} : ∀ (l : List (Nat × Nat)), (∀ x ∈ l, ∀ k, x.2.testBit k = true → Waits .any ops k x.1) → (lookM i l).testBit k = true → Waits .any ops k i
  | [], _, h => by simp [lookM] at h
  | (j, m) :: l, hl, h => by
    simp only [lookM] at h
    split at h
    · rename_i hij
      have := Nat.eq_of_beq_eq_true hij; subst this
      exact hl _ (List.mem_cons_self ..) k h
    · exact lookM_bit l (fun x hx => hl x (List.mem_cons_of_mem _ hx)) h
theorem tdepsM_bit {ops : Array Oper} {i k : Nat} {o : Oper} (ho : ops[i]? = some o) {prev : List (Nat × Nat)} (hp : ∀ x ∈ prev, ∀ k, x.2.testBit k = true → Waits .any ops k x.1) :
    ∀ (l : List Edge), (∀ e ∈ l, e ∈ o.after) → (tdepsM prev l).testBit k = true → Waits .any ops k i
  | [], _, h => by simp [tdepsM] at h
  | e :: l, hl, h => by
    simp only [tdepsM] at h
    split at h
    · rename_i hb
      have h' : ((2 ^ e.on ||| lookM e.on prev) ||| tdepsM prev l).testBit k = true := h
      rw [Nat.testBit_or, Nat.testBit_or, Bool.or_eq_true, Bool.or_eq_true] at h'
      rcases h' with (h' | h') | h'
      · rw [Nat.testBit_two_pow, decide_eq_true_eq] at h'
        exact .edge ho (hl e (List.mem_cons_self ..)) hb h'
      · exact .thru ho (hl e (List.mem_cons_self ..)) hb (lookM_bit prev hp h')
      · exact tdepsM_bit ho hp l (fun x hx => hl x (List.mem_cons_of_mem _ hx)) h'
    · exact tdepsM_bit ho hp l (fun x hx => hl x (List.mem_cons_of_mem _ hx)) h
theorem statics_ok {ops : Array Oper} : ∀ (l : List Oper) (prev : List (Nat × Nat)) (i : Nat), (∀ k, l[k]? = ops[i + k]?) → (∀ x ∈ prev, ∀ k, x.2.testBit k = true → Waits .any ops k x.1) →
    (∀ r ∈ statics ops prev i l, RIOk ops r ∧ i ≤ r.i) ∧ (∀ k, k < l.length → ∃ r ∈ statics ops prev i l, r.i = i + k) ∧ ((statics ops prev i l).map (·.i)).Nodup ∧ (statics ops prev i l).length = l.length
  | [], _, _, _, _ => by simp [statics]
  | o :: l, prev, i, hl, hp => by
    have h0 : ops[i]? = some o := by have := hl 0; simp at this; exact this.symm
    have ht : ∀ k, (tdepsM prev o.after.toList).testBit k = true → Waits .any ops k i := fun k => tdepsM_bit h0 hp _ (fun e he => by simpa using he)
    obtain ⟨h1, h2, h3, h4⟩ := statics_ok l ((i, tdepsM prev o.after.toList) :: prev) (i + 1) (fun k => by have := hl (k + 1); simp only [List.getElem?_cons_succ] at this; rw [this]; congr 1; omega)
      (fun x hx => by
        rcases List.mem_cons.1 hx with rfl | hx
        · exact ht
        · exact hp x hx)
    refine ⟨?_, ?_, ?_, ?_⟩
    · intro r hr
      simp only [statics, List.mem_cons] at hr
      rcases hr with rfl | hr
      · refine ⟨⟨h0, ?_, ?_, ht⟩, Nat.le_refl _⟩
        · intro k
          have := depsM_bit k o.after.toList
          simpa using this
        · intro j oj hj hne
          have := blockM_bit (ops := ops) (i := i) (oi := o) ops.toList 0 j oj (by simpa using hj) (by simpa using hne)
          simpa using this
      · obtain ⟨g1, g2⟩ := h1 r hr
        exact ⟨g1, by omega⟩
    · intro k hk
      cases k with
      | zero => exact ⟨_, by simp only [statics]; exact List.mem_cons_self .., rfl⟩
      | succ k =>
        obtain ⟨r, g1, g2⟩ := h2 k (by simpa using hk)
        exact ⟨r, by simp only [statics]; exact List.mem_cons_of_mem _ g1, by omega⟩
    · simp only [statics, List.map_cons]
      refine List.nodup_cons.2 ⟨fun hc => ?_, h3⟩
      obtain ⟨r, hr, he⟩ := List.mem_map.1 hc
      have := (h1 r hr).2
      omega
    · simp [statics, h4]

/-- Who still waits, who has come. -/
structure PI (ops : Array Oper) (pend : List RI) (mask : Nat) (listed : Array Bool) : Prop where
  size : listed.size = ops.size
  mask : ∀ i, mask.testBit i = listed.getD i false
  down : Down .any ops listed
  ok : ∀ r ∈ pend, RIOk ops r
  un : ∀ r ∈ pend, listed.getD r.i false = false
  all : ∀ i, i < ops.size → listed.getD i false = false → ∃ r ∈ pend, r.i = i
  nd : (pend.map (·.i)).Nodup
variable {ops : Array Oper} {pend : List RI} {mask : Nat} {listed : Array Bool}
theorem PI.start : PI ops (statics ops [] 0 ops.toList) 0 (Array.replicate ops.size false) := by
  obtain ⟨h1, h2, h3, _⟩ := statics_ok (ops := ops) ops.toList [] 0 (fun k => by simp) (by simp)
  refine ⟨by simp, fun i => ?_, Down.start _, fun r hr => (h1 r hr).1, fun r hr => ?_, fun i hi _ => ?_, h3⟩
  · by_cases h : i < ops.size <;> simp [h]
  · by_cases h : r.i < ops.size <;> simp [h]
  · obtain ⟨r, g1, g2⟩ := h2 i (by simpa using hi)
    exact ⟨r, g1, by omega⟩
theorem PI.perm {pend' : List RI} (h : PI ops pend mask listed) (hp : pend.Perm pend') : PI ops pend' mask listed :=
  ⟨h.size, h.mask, h.down, fun r hr => h.ok r (hp.symm.subset hr), fun r hr => h.un r (hp.symm.subset hr), fun i hi hl => by obtain ⟨r, h1, h2⟩ := h.all i hi hl; exact ⟨r, hp.subset h1, h2⟩, (hp.map _).nodup_iff.1 h.nd⟩
theorem PI.lt (h : PI ops pend mask listed) {r : RI} (hr : r ∈ pend) : r.i < ops.size := (Array.getElem?_eq_some_iff.1 (h.ok r hr).get).1
theorem PI.ready (h : PI ops pend mask listed) {r : RI} (hr : r ∈ pend) (hd : inM r.deps mask = true) : r.i ∈ Region.ready .any ops listed := by
  have hlt := h.lt hr
  refine mem_ready.2 ⟨?_, r.o, (h.ok r hr).get, fun e he hb => ?_⟩
  · have := h.un r hr
    rw [← h.size] at hlt
    simp [hlt] at this ⊢; exact this
  · rw [← h.mask]
    exact inM_sub hd e.on (((h.ok r hr).deps e.on).2 ⟨e, he, hb, rfl⟩)
theorem PI.ready_of (h : PI ops pend mask listed) {i : Nat} (hi : i ∈ Region.ready .any ops listed) : ∃ r ∈ pend, r.i = i ∧ inM r.deps mask = true := by
  obtain ⟨h0, o, ho, hall⟩ := mem_ready.1 hi
  have hlt : i < ops.size := (Array.getElem?_eq_some_iff.1 ho).1
  obtain ⟨r, hr, rfl⟩ := h.all i hlt (by rw [← h.size] at hlt; simp [hlt] at h0 ⊢; exact h0)
  refine ⟨r, hr, rfl, inM_of fun k hk => ?_⟩
  obtain ⟨e, he, hb, rfl⟩ := ((h.ok r hr).deps k).1 hk
  have := (h.ok r hr).get
  rw [ho] at this; simp only [Option.some.injEq] at this; subst this
  rw [h.mask]; exact hall e he hb
theorem PI.take {r : RI} (h : PI ops (r :: pend) mask listed) (hd : inM r.deps mask = true) : PI ops pend (Nat.lor mask (Nat.pow 2 r.i)) (listed.setIfInBounds r.i true) := by
  have hr : r ∈ r :: pend := List.mem_cons_self ..
  have hlt := h.lt hr
  have hnd := List.nodup_cons.1 h.nd
  have hset : ∀ k, (listed.setIfInBounds r.i true).getD k false = (listed.getD k false || decide (r.i = k)) := fun k => by
    by_cases hk : r.i = k
    · subst hk; rw [← h.size] at hlt; simp [hlt]
    · rw [getD_set_ne false hk]; simp [hk]
  refine ⟨by simpa using h.size, fun k => ?_, h.down.set (h.ready hr hd), fun x hx => h.ok x (List.mem_cons_of_mem _ hx), fun x hx => ?_, fun i hi hl => ?_, hnd.2⟩
  · rw [testBit_or1, h.mask, hset]
  · rw [hset, h.un x (List.mem_cons_of_mem _ hx)]
    have : r.i ≠ x.i := fun hc => hnd.1 (List.mem_map.2 ⟨x, hx, hc.symm⟩)
    simp [this]
  · rw [hset, Bool.or_eq_false_iff] at hl
    obtain ⟨x, hx, rfl⟩ := h.all i hi hl.1
    rcases List.mem_cons.1 hx with rfl | hx
    · simp at hl
    · exact ⟨x, hx, rfl⟩
theorem PI.free {r : RI} (h : PI ops (r :: pend) mask listed) (hb : inM r.block mask = true) (j : Nat) (oj : Oper) (hj : ops[j]? = some oj) (hne : j ≠ r.i) (hun : listed.getD j true = false)
    (hno : ∀ e ∈ oj.after, Region.binds .any e = true → e.on ≠ r.i) : r.o.apart ops oj = true := by
  rcases (h.ok r (List.mem_cons_self ..)).block j oj hj hne with h1 | ⟨e, he, hbd, hon⟩ | h1
  · have h2 := inM_sub hb j h1
    rw [h.mask] at h2
    have hlt : j < listed.size := by
      rcases Nat.lt_or_ge j listed.size with h' | h'
      · exact h'
      · simp [Array.getElem?_eq_none h'] at h2
    simp [hlt] at h2 hun
    rw [h2] at hun; cases hun
  · exact absurd hon (hno e he hbd)
  · exact h1

theorem hitsS_not {S : List Tmp} {dst : Option Tmp} (h : hitsS S dst = false) : ∀ d, dst = some d → d ∉ S := by
  rintro d rfl hm
  simp only [hitsS] at h
  rw [List.contains_iff_mem.2 hm] at h
  simp at h


/- Frames. -/
def ownOf (h : List SO) (β : List Nat) : Own := ⟨fun b => ∃ (i : Nat) (o : SO), h[i]? = some o ∧ β[i]? = some b ∧ o.mine = true, fun b => b ∈ β⟩
theorem HRel.self {h : List SO} {β : List Nat} {w : World} (H : HRel ρ w0 own h β w) : HRel ρ w (ownOf h β) h β w :=
  ⟨H.len, H.nd, H.lt, H.holds, fun i o b h1 h2 h3 => .inl ⟨i, o, h1, h2, h3⟩, fun b hb => .inl hb, Fr.refl _ _⟩
theorem HRel.rebase {h h' : List SO} {β β' : List Nat} {w w' : World} (H : HRel ρ w0 own h β w) (H' : HRel ρ w (ownOf h β) h' β' w') : HRel ρ w0 own h' β' w' := by
  have hm : ∀ b, (ownOf h β).m b → own.m b ∨ w0.heap.size ≤ b := fun b hb => by obtain ⟨i, o, h1, h2, h3⟩ := hb; exact H.mine i o b h1 h2 h3
  have hs := H.fr.size
  refine ⟨H'.len, H'.nd, H'.lt, H'.holds, fun i o b h1 h2 h3 => ?_, fun b hb => ?_, ⟨H'.fr.os.trans H.fr.os, H'.fr.tape.trans H.fr.tape, H'.fr.output.trans H.fr.output, Nat.le_trans hs H'.fr.size, fun k hk hn => ?_⟩⟩
  · rcases H'.mine i o b h1 h2 h3 with h | h
    · exact hm b h
    · exact .inr (Nat.le_trans hs h)
  · rcases H'.nw b hb with h | h
    · exact H.nw b h
    · exact .inr (Nat.le_trans hs h)
  · rw [H'.fr.block k (Nat.lt_of_lt_of_le hk hs) (fun hc => by rcases hm k hc with h | h; exact hn h; omega)]
    exact H.fr.block k hk hn
/-- A block that stood there already is taken in. -/
theorem HRel.adopt {h : List SO} {β : List Nat} {w : World} (H : HRel ρ w0 own h β w) {o : SO} {b : Nat} (hb : b ∉ β) (hlt : b < w.heap.size) (hge : w0.heap.size ≤ b) (ho : o.holds ρ (β ++ [b]) w b) : HRel ρ w0 own (h ++ [o]) (β ++ [b]) w := by
  have hpre : β <+: β ++ [b] := List.prefix_append _ _
  have split : ∀ (i : Nat) (o' : SO) (b' : Nat), (h ++ [o])[i]? = some o' → (β ++ [b])[i]? = some b' → (h[i]? = some o' ∧ β[i]? = some b') ∨ (o' = o ∧ b' = b) := by
    intro i o' b' hi hb'
    by_cases hl : i < h.length
    · rw [List.getElem?_append_left hl] at hi
      rw [List.getElem?_append_left (by rw [H.len]; exact hl)] at hb'
      exact .inl ⟨hi, hb'⟩
    · have hl' : i - h.length = 0 := by
        rw [List.getElem?_append_right (by omega)] at hi
        have := (List.getElem?_eq_some_iff.1 hi).1
        simp at this; omega
      rw [List.getElem?_append_right (by omega), hl'] at hi
      rw [List.getElem?_append_right (by rw [H.len]; omega), H.len, hl'] at hb'
      simp at hi hb'; exact .inr ⟨hi.symm, hb'.symm⟩
  refine ⟨by simp [H.len], ?_, ?_, ?_, ?_, ?_, H.fr⟩
  · rw [List.nodup_append]
    exact ⟨H.nd, by simp, fun x hx y hy => by simp at hy; subst hy; rintro rfl; exact hb hx⟩
  · intro x hx
    rcases List.mem_append.1 hx with hx | hx
    · exact H.lt x hx
    · simp at hx; subst hx; exact hlt
  · intro i o' b' hi hb'
    rcases split i o' b' hi hb' with ⟨h1, h2⟩ | ⟨rfl, rfl⟩
    · exact SO.holds_of hpre rfl (H.holds i o' b' h1 h2)
    · exact ho
  · intro i o' b' hi hb' hm
    rcases split i o' b' hi hb' with ⟨h1, h2⟩ | ⟨rfl, rfl⟩
    · exact H.mine i o' b' h1 h2 hm
    · exact .inr hge
  · intro x hx
    rcases List.mem_append.1 hx with hx | hx
    · exact H.nw x hx
    · simp at hx; subst hx; exact .inr hge

/-- Alike but for some temporaries, in which stands what is told. -/
structure Ag (D : List (Option Tmp × Value)) (a ac : Act) : Prop where
  df : a.defers = ac.defers
  sz : a.tmps.size = ac.tmps.size
  same : ∀ t, (∀ x ∈ D, x.1 ≠ some t) → a.tmps[t]? = ac.tmps[t]?
  is : ∀ x ∈ D, ∀ t, x.1 = some t → t < a.tmps.size → a.tmps[t]? = some x.2
theorem Ag.put {D : List (Option Tmp × Value)} {a ac : Act} (h : Ag D a ac) {dst : Option Tmp} (hd : ∀ x ∈ D, ∀ t, x.1 = some t → dst ≠ some t) (v : Value) : Ag D (a.put dst v) (ac.put dst v) := by
  cases dst with
  | none => exact h
  | some d =>
    refine ⟨h.df, by simp [Act.put, h.sz], fun t ht => ?_, fun x hx t ht hlt => ?_⟩
    · have := h.same t ht
      simp only [Act.put]
      by_cases hdt : d = t
      · subst hdt
        by_cases hl : d < a.tmps.size
        · rw [Array.getElem?_setIfInBounds_self_of_lt hl, Array.getElem?_setIfInBounds_self_of_lt (by rw [← h.sz]; exact hl)]
        · simp [h.sz] at hl ⊢
          simp [hl, h.sz]
      · rw [Array.getElem?_setIfInBounds_ne hdt, Array.getElem?_setIfInBounds_ne hdt, this]
    · have hne : d ≠ t := fun hc => hd x hx t ht (by rw [hc])
      simp only [Act.put] at hlt ⊢
      rw [Array.getElem?_setIfInBounds_ne hne]
      exact h.is x hx t ht (by simpa using hlt)
theorem Ag.defer {D : List (Option Tmp × Value)} {a ac : Act} (h : Ag D a ac) (d : Deferred) : Ag D { a with defers := d :: a.defers } { ac with defers := d :: ac.defers } := ⟨by simp [h.df], h.sz, h.same, h.is⟩
theorem Ag.ev {D : List (Option Tmp × Value)} {a ac : Act} (h : Ag D a ac) {x : Operand} (hx : ∀ y ∈ D, ∀ t, y.1 = some t → x ≠ .tmp t) : a.eval x = ac.eval x := by
  cases x with
  | tmp t =>
    have := h.same t fun y hy hc => hx y hy t hc rfl
    simp only [Act.eval, Array.getD_eq_getD_getElem?, this]
  | _ => rfl
theorem Ag.exec {D : List (Option Tmp × Value)} {a ac : Act} (h : Ag D a ac) {ops : Array Oper} {o : Oper} (hs : ∀ cs b, o.op ≠ .select cs b) (hx : ∀ y ∈ D, ∀ t, y.1 = some t → t ∉ o.looksAt ops) :
    execOp a.eval o = execOp ac.eval o ∧ Region.wanted o (yielded ops a.tmps) = Region.wanted o (yielded ops ac.tmps) := by
  constructor
  · refine execOp_congr o hs fun x hxo => h.ev fun y hy t ht hc => ?_
    subst hc
    exact hx y hy t ht (List.mem_append_left _ (List.mem_filterMap.2 ⟨.tmp t, by simpa using hxo, rfl⟩))
  · unfold Region.wanted
    cases hg : o.guard with
    | none => rfl
    | some gw =>
      obtain ⟨g, want⟩ := gw
      have hy : yielded ops a.tmps g = yielded ops ac.tmps g := by
        unfold yielded
        cases ht : (ops[g]?).bind (·.dst) with
        | none => rfl
        | some t =>
          have := h.same t fun y hy hc => hx y hy t hc (by simp [Oper.looksAt, hg, ht])
          simp [this]
      simp only [hy]
theorem wpOp_agree {ops : Array Oper} {D : List (Option Tmp × Value)} {a ac : Act} (hag : Ag D a ac) {j : Nat} {o : Oper} (hj : ops[j]? = some o) (hs : ∀ cs b, o.op ≠ .select cs b) (hx : ∀ y ∈ D, ∀ t, y.1 = some t → t ∉ o.looksAt ops)
    (hd : ∀ x ∈ D, ∀ t, x.1 = some t → o.dst ≠ some t) {Q : Exit → Act → World → Prop} (hQ : ∀ c a ac w, Ag D a ac → Q (.panic c) ac w → Q (.panic c) a w) {K : Act → World → Prop} {w : World}
    (h : wpOp P ops Q j K ac w) : wpOp P ops Q j (fun a' w' => ∃ ac', Ag D a' ac' ∧ K ac' w') a w := by
  obtain ⟨e1, e2⟩ := hag.exec hs hx
  unfold wpOp at *
  simp only [hj] at *
  rw [e2]
  split
  · rename_i hw
    simp only [hw, if_true] at h
    rcases h with h | ⟨hasks, hlets⟩
    case inr => exact .inr ⟨by unfold Oper.asks at *; rw [e1]; exact hasks, hlets⟩
    refine .inl ?_
    unfold Oper.wp at *
    rw [e1]
    generalize (execOp ac.eval o).run P w = r at *
    cases r with
    | ok n w' =>
      cases n <;> simp only [Oper.upon] at h ⊢
      case value u => exact ⟨_, hag.put hd u, h⟩
      case skip => exact ⟨_, hag.put hd _, h⟩
      case defer d => exact ⟨_, (hag.defer d).put hd _, h⟩
      case enter f args =>
        refine Calls.mono h fun e w'' he => ?_
        cases e with
        | returned u => exact ⟨_, hag.put hd u, he⟩
        | panicked c => exact hQ _ _ _ _ hag he
        | outgrown => exact he
      case row row args => exact Rows.mono h fun u w'' he => ⟨_, hag.put hd u, he⟩
    | halt x w' =>
      cases x <;> simp only [Oper.upon] at h ⊢
      case panic u => exact hQ _ _ _ _ hag h
  · rename_i hw
    simp only [hw] at h
    exact ⟨_, hag.put hd _, h⟩

/-- A new variable that has come early. -/
structure EE where
  r : RI
  b : Nat
  vs : Array Value
  t : TypeId
def EE.d (e : EE) : Option Tmp × Value := (e.r.o.dst, .pointer (some ⟨e.b, 0, none⟩))
structure Early (P : Program) (ρ : Env) (w0 : World) (S : List Tmp) (pend : List RI) (mask : Nat) (lc la : Array Bool) (E : List EE) (β : List Nat) (a ac : Act) (w : World) : Prop where
  mem : ∀ e ∈ E, e.r ∈ pend
  rdy : ∀ e ∈ E, inM e.r.deps mask = true
  al : ∀ e ∈ E, allocR P S e.r = true
  zero : ∀ e ∈ E, ∃ z l, e.r.o.op = .alloc e.t ∧ zeroS P e.t = some z ∧ scells z = some l ∧ RelL ρ [] l e.vs.toList
  heap : ∀ e ∈ E, w.heap[e.b]? = some (.cells e.vs e.t (0, 0))
  fresh : ∀ e ∈ E, e.b ∉ β ∧ w0.heap.size ≤ e.b
  ndb : (E.map (·.b)).Nodup
  ndi : (E.map (·.r.i)).Nodup
  ag : Ag (E.map EE.d) a ac
  size : la.size = lc.size
  lst : ∀ i, la.getD i false = (lc.getD i false || E.any (·.r.i == i))
theorem mem_readyR {r : RI} : ∀ {l : List RI}, r ∈ readyR mask l ↔ r ∈ l ∧ inM r.deps mask = true
  | [] => by simp [readyR]
  | x :: l => by
    simp only [readyR]
    have ih := mem_readyR (r := r) (l := l)
    split
    · rename_i hx
      simp only [List.mem_cons, ih]
      constructor
      · rintro (rfl | h)
        · exact ⟨.inl rfl, hx⟩
        · exact ⟨.inr h.1, h.2⟩
      · rintro ⟨rfl | h, h2⟩
        · exact .inl rfl
        · exact .inr ⟨h, h2⟩
    · rename_i hx
      simp only [List.mem_cons, ih]
      constructor
      · rintro h; exact ⟨.inr h.1, h.2⟩
      · rintro ⟨rfl | h, h2⟩
        · rw [h2] at hx; cases hx
        · exact ⟨h, h2⟩
theorem without_perm {r : RI} : ∀ {l : List RI}, (l.map (·.i)).Nodup → r ∈ l → l.Perm (r :: without r.i l)
  | [], _, h => by simp at h
  | x :: l, hnd, h => by
    simp only [List.map_cons, List.nodup_cons] at hnd
    have other : r.i ∉ l.map (·.i) → without r.i l = l := fun hn => by
      clear h hnd
      induction l with
      | nil => rfl
      | cons y l ih =>
        simp only [List.map_cons, List.mem_cons, not_or] at hn
        simp only [without]
        split
        · rename_i hy; exact absurd (Nat.eq_of_beq_eq_true hy).symm hn.1
        · rw [ih hn.2]
    rcases List.mem_cons.1 h with rfl | hm
    · simp only [without, Nat.beq_refl]
      rw [other hnd.1]
    · have hne : x.i ≠ r.i := fun hc => hnd.1 (List.mem_map.2 ⟨r, hm, hc.symm⟩)
      have ih := without_perm hnd.2 hm
      simp only [without]
      split
      · rename_i hy; exact absurd (Nat.eq_of_beq_eq_true hy) hne
      · exact (ih.cons x).trans (List.Perm.swap ..)


theorem nodup_inj {α β : Type} {f : α → β} : ∀ {l : List α}, (l.map f).Nodup → ∀ {a b : α}, a ∈ l → b ∈ l → f a = f b → a = b
  | [], _, _, _, h, _, _ => by simp at h
  | x :: l, hnd, a, b, ha, hb, hf => by
    simp only [List.map_cons, List.nodup_cons] at hnd
    rcases List.mem_cons.1 ha with ha1 | ha1
    · rcases List.mem_cons.1 hb with hb1 | hb1
      · rw [ha1, hb1]
      · exact (hnd.1 (List.mem_map.2 ⟨b, hb1, by rw [← hf, ha1]⟩)).elim
    · rcases List.mem_cons.1 hb with hb1 | hb1
      · exact (hnd.1 (List.mem_map.2 ⟨a, ha1, by rw [hf, hb1]⟩)).elim
      · exact nodup_inj hnd.2 ha1 hb1 hf
theorem nodup_len {α : Type} : ∀ {l m : List α}, l.Nodup → (∀ x ∈ l, x ∈ m) → l.length ≤ m.length
  | [], _, _, _ => Nat.zero_le _
  | a :: l, m, hnd, hs => by
    obtain ⟨s, t, rfl⟩ := List.append_of_mem (hs a (List.mem_cons_self ..))
    have hnd' := List.nodup_cons.1 hnd
    have := nodup_len (m := s ++ t) hnd'.2 fun x hx => by
      have h1 := hs x (List.mem_cons_of_mem _ hx)
      rcases List.mem_append.1 h1 with h1 | h1
      · exact List.mem_append_left _ h1
      · rcases List.mem_cons.1 h1 with rfl | h1
        · exact absurd hx hnd'.1
        · exact List.mem_append_right _ h1
    simp at this ⊢; omega
theorem HRel.more {h : List SO} {β : List Nat} {w : World} (H : HRel ρ w0 own h β w) (ob : Obj) : HRel ρ w0 own h β { w with heap := w.heap.push ob } := by
  have hget : ∀ k, k < w.heap.size → (w.heap.push ob)[k]? = w.heap[k]? := fun k hk => by rw [Array.getElem?_push, if_neg (by omega)]
  refine ⟨H.len, H.nd, fun b hb => by have := H.lt b hb; simp; omega, fun i o b h1 h2 => SO.holds_of (List.prefix_refl _) (hget b (H.lt b (List.mem_of_getElem? h2))) (H.holds i o b h1 h2), H.mine, H.nw, ⟨H.fr.os, H.fr.tape, H.fr.output, by have := H.fr.size; simp; omega, fun k hk hn => ?_⟩⟩
  have := H.fr.size
  show (w.heap.push ob)[k]? = _
  rw [hget k (by omega)]; exact H.fr.block k hk hn
theorem ext_push (w : World) (ob : Obj) : Ext w { w with heap := w.heap.push ob } := fun k o h => by
  have hlt := (Array.getElem?_eq_some_iff.1 h).1
  show (w.heap.push ob)[k]? = _
  rw [Array.getElem?_push, if_neg (by omega)]; exact h

theorem allocR_spec {S : List Tmp} {r : RI} (h : allocR P S r = true) : r.o.guard = none ∧ r.block = 0 ∧ hitsS S r.o.dst = false ∧ ∃ elem z l, r.o.op = .alloc elem ∧ zeroS P elem = some z ∧ scells z = some l := by
  unfold allocR at h
  split at h
  · rename_i elem ho hg
    simp only [Bool.and_eq_true, Bool.not_eq_true'] at h
    refine ⟨hg, Nat.eq_of_beq_eq_true h.1.1, h.1.2, elem, ?_⟩
    cases hz : zeroS P elem with
    | none => simp [hz] at h
    | some z =>
      cases hl : scells z with
      | none => simp [hz, hl] at h
      | some l => exact ⟨z, l, ho, rfl, hl⟩
  · simp at h
theorem allocR_held {S : List Tmp} {r : RI} (h : allocR P S r = true) (R : Held) (st : St) : heldStep P ops r.i r.o R st = none := by
  obtain ⟨hg, _, _, elem, z, l, ho, _, _⟩ := allocR_spec h
  simp [heldStep, hg, evHeld, ho, evPure]
theorem stepOp_alloc {S : List Tmp} {r : RI} {K : CallK} (h : allocR P S r = true) {elem : TypeId} {z : SV} {l : List SV} (ho : r.o.op = .alloc elem) (hz : zeroS P elem = some z) (hl : scells z = some l) (st : St) :
    stepOp P K ops r.o st = .leaf (.normal, ({ st with heap := st.heap ++ [.cells false l elem] } : St).put r.o.dst (.ptr st.heap.length 0)) := by
  obtain ⟨hg, _⟩ := allocR_spec h
  simp [stepOp, hg, runOp, runOp0, ho, evPure, evMem, splitOn, hz, hl]

section
variable {S : List Tmp} {lc la : Array Bool} {E : List EE} {β : List Nat} {a ac : Act} {w : World}
theorem Early.lt (hE : Early P ρ w0 S pend mask lc la E β a ac w) {e : EE} (he : e ∈ E) : e.b < w.heap.size := (Array.getElem?_eq_some_iff.1 (hE.heap e he)).1
theorem Early.perm {pend' : List RI} (hE : Early P ρ w0 S pend mask lc la E β a ac w) (hp : pend.Perm pend') : Early P ρ w0 S pend' mask lc la E β a ac w :=
  ⟨fun e he => hp.subset (hE.mem e he), hE.rdy, hE.al, hE.zero, hE.heap, hE.fresh, hE.ndb, hE.ndi, hE.ag, hE.size, hE.lst⟩
theorem Early.apart (hE : Early P ρ w0 S pend mask lc la E β a ac w) (hI : PI ops pend mask lc) {e : EE} (he : e ∈ E) {r : RI} (hr : r ∈ pend) (hne : e.r.i ≠ r.i) (hd : inM r.deps mask = true) : e.r.o.apart ops r.o = true := by
  have hok := hI.ok e.r (hE.mem e he)
  rcases hok.block r.i r.o (hI.ok r hr).get (Ne.symm hne) with h | ⟨x, hx, hb, hon⟩ | h
  · obtain ⟨_, hb, _⟩ := allocR_spec (hE.al e he)
    rw [hb] at h; simp at h
  · exfalso
    have h1 := inM_sub hd e.r.i (((hI.ok r hr).deps e.r.i).2 ⟨x, hx, hb, hon⟩)
    rw [hI.mask, hI.un e.r (hE.mem e he)] at h1
    cases h1
  · exact h
theorem Early.down (hE : Early P ρ w0 S pend mask lc la E β a ac w) (hI : PI ops pend mask lc) : Down .any ops la := by
  intro k hk o ho e he hb
  rw [hE.lst, Bool.or_eq_true] at hk ⊢
  left
  rcases hk with hk | hk
  · exact hI.down k hk o ho e he hb
  · obtain ⟨x, hx, hxk⟩ := List.any_eq_true.1 hk
    have hxk' : x.r.i = k := by simpa using hxk
    have hok := hI.ok x.r (hE.mem x hx)
    have hg := hok.get
    rw [hxk', ho] at hg; simp only [Option.some.injEq] at hg
    have h1 := inM_sub (hE.rdy x hx) e.on ((hok.deps e.on).2 ⟨e, by rw [← hg]; exact he, hb, rfl⟩)
    rw [hI.mask] at h1; exact h1
theorem Early.unl (hE : Early P ρ w0 S pend mask lc la E β a ac w) (hI : PI ops pend mask lc) {r : RI} (hr : r ∈ pend) (hn : ∀ e ∈ E, e.r.i ≠ r.i) : la.getD r.i false = false := by
  rw [hE.lst, hI.un r hr, Bool.false_or]
  cases h : E.any (·.r.i == r.i)
  · rfl
  · obtain ⟨x, hx, hxk⟩ := List.any_eq_true.1 h
    exact absurd (by simpa using hxk) (hn x hx)
theorem Early.ready (hE : Early P ρ w0 S pend mask lc la E β a ac w) (hI : PI ops pend mask lc) {r : RI} (hr : r ∈ pend) (hd : inM r.deps mask = true) (hn : ∀ e ∈ E, e.r.i ≠ r.i) : r.i ∈ Region.ready .any ops la := by
  have hlt := hI.lt hr
  refine mem_ready.2 ⟨?_, r.o, (hI.ok r hr).get, fun e he hb => ?_⟩
  · have := hE.unl hI hr hn
    rw [← hI.size, ← hE.size] at hlt
    simp [hlt] at this ⊢; exact this
  · rw [hE.lst, ← hI.mask, inM_sub hd e.on (((hI.ok r hr).deps e.on).2 ⟨e, he, hb, rfl⟩)]
    rfl
/-- Who may come: one that may come as it is told, or one that waits for a variable that came early. -/
theorem Early.ready_of (hE : Early P ρ w0 S pend mask lc la E β a ac w) (hI : PI ops pend mask lc) {i : Nat} (hi : i ∈ Region.ready .any ops la) :
    ∃ r ∈ pend, r.i = i ∧ (∀ e ∈ E, e.r.i ≠ i) ∧ (inM r.deps mask = true ∨ (inM r.deps mask = false ∧ ∃ e ∈ E, r.deps.testBit e.r.i = true)) := by
  obtain ⟨h0, o, ho, hall⟩ := mem_ready.1 hi
  have hlt : i < ops.size := (Array.getElem?_eq_some_iff.1 ho).1
  have h0' : la.getD i false = false := by rw [← hI.size, ← hE.size] at hlt; simp [hlt] at h0 ⊢; exact h0
  rw [hE.lst, Bool.or_eq_false_iff] at h0'
  obtain ⟨r, hr, rfl⟩ := hI.all i hlt h0'.1
  refine ⟨r, hr, rfl, fun e he hc => ?_, ?_⟩
  · have : E.any (·.r.i == r.i) = true := List.any_eq_true.2 ⟨e, he, by simpa using hc⟩
    rw [h0'.2] at this; cases this
  · cases hd : inM r.deps mask
    · right
      refine ⟨rfl, ?_⟩
      -- some number that has not come as it is told
      rcases Classical.em (∃ k, r.deps.testBit k = true ∧ mask.testBit k = false) with ⟨k, hk1, hk2⟩ | hno
      · obtain ⟨x, hx, hb, rfl⟩ := ((hI.ok r hr).deps k).1 hk1
        have hg := (hI.ok r hr).get
        rw [ho] at hg; simp only [Option.some.injEq] at hg; subst hg
        have := hall x hx hb
        rw [hE.lst, ← hI.mask, hk2, Bool.false_or] at this
        obtain ⟨e, he, hek⟩ := List.any_eq_true.1 this
        have hek' : e.r.i = x.on := by simpa using hek
        exact ⟨e, he, by rw [hek']; exact hk1⟩
      · exfalso
        have : inM r.deps mask = true := inM_of fun k hk => by
          cases hm : mask.testBit k
          · exact absurd ⟨k, hk, hm⟩ hno
          · rfl
        rw [hd] at this; cases this
    · exact .inl rfl
theorem Early.panic (hE : Early P ρ w0 S pend mask lc la E β a ac w) {Q : Exit → Act → World → Prop} (hQ : PanicOk S Q) : ∀ c a ac w, Ag (E.map EE.d) a ac → Q (.panic c) ac w → Q (.panic c) a w := by
  intro c a ac w hag hq
  refine hQ c ac a w hag.df.symm (fun t ht => ?_) hq
  have : a.tmps[t]? = ac.tmps[t]? := hag.same t fun x hx hc => by
    obtain ⟨e, he, rfl⟩ := List.mem_map.1 hx
    exact hitsS_not (allocR_spec (hE.al e he)).2.2.1 t hc ht
  simp only [Array.getD_eq_getD_getElem?, this]
theorem Early.looks (hE : Early P ρ w0 S pend mask lc la E β a ac w) (hI : PI ops pend mask lc) {r : RI} (hr : r ∈ pend) (hd : inM r.deps mask = true) (hn : ∀ e ∈ E, e.r.i ≠ r.i) :
    (∀ y ∈ E.map EE.d, ∀ t, y.1 = some t → t ∉ r.o.looksAt ops) ∧ (∀ x ∈ E.map EE.d, ∀ t, x.1 = some t → r.o.dst ≠ some t) := by
  constructor
  · intro y hy t ht
    obtain ⟨e, he, rfl⟩ := List.mem_map.1 hy
    exact (Oper.apart_spec (hE.apart hI he hr (hn e he) hd)).1 t ht
  · intro y hy t ht
    obtain ⟨e, he, rfl⟩ := List.mem_map.1 hy
    exact (Oper.apart_spec (hE.apart hI he hr (hn e he) hd)).2.1 t ht
/-- One comes, as it is told. -/
theorem Early.step {pend' : List RI} {β' : List Nat} {a' ac' : Act} {w' : World} {r : RI} (hE : Early P ρ w0 S pend mask lc la E β a ac w) (hI : PI ops pend mask lc) (hp : pend.Perm (r :: pend')) (hn : ∀ e ∈ E, e.r.i ≠ r.i)
    (hheap : ∀ e ∈ E, w'.heap[e.b]? = w.heap[e.b]?) (hfresh : ∀ e ∈ E, e.b ∉ β') (hag : Ag (E.map EE.d) a' ac') :
    Early P ρ w0 S pend' (Nat.lor mask (Nat.pow 2 r.i)) (lc.setIfInBounds r.i true) (la.setIfInBounds r.i true) E β' a' ac' w' := by
  have hlt : r.i < lc.size := by rw [hI.size]; exact hI.lt (hp.symm.subset (List.mem_cons_self ..))
  refine ⟨fun e he => ?_, fun e he => inM_of fun k hk => ?_, hE.al, hE.zero, fun e he => by rw [hheap e he]; exact hE.heap e he, fun e he => ⟨hfresh e he, (hE.fresh e he).2⟩, hE.ndb, hE.ndi, hag, by simp [hE.size], fun i => ?_⟩
  · rcases List.mem_cons.1 (hp.subset (hE.mem e he)) with h | h
    · exact absurd (by rw [h]) (hn e he)
    · exact h
  · rw [testBit_or1, inM_sub (hE.rdy e he) k hk]; rfl
  · by_cases hi : r.i = i
    · subst hi
      have : r.i < la.size := by rw [hE.size]; exact hlt
      simp [hlt, this]
    · rw [getD_set_ne false hi, getD_set_ne false hi]; exact hE.lst i
end

def Runs (P : Program) (ρ : Env) (w0 : World) (own : Own) (ops : Array Oper) (S : List Tmp) (Q : Exit → Act → World → Prop) (β0 : List Nat) (pend : List RI) (mask : Nat) (R : Held) (st : St) : Prop :=
  ∀ (β : List Nat) (a ac : Act) (w : World) (lc la : Array Bool) (CR : List CE) (E : List EE), β0 <+: β → Rel ρ w0 own st β ac w → PI ops pend mask lc → HeldRel ρ β R CR → Early P ρ w0 S pend mask lc la E β a ac w →
    ∀ k, pend.length ≤ k + E.length → wpAnyJ P .any ops Q (SJ ops CR) k la a w
theorem Runs.perm {S : List Tmp} {Q : Exit → Act → World → Prop} {β0 : List Nat} {pend pend' : List RI} {R : Held} {st : St} (h : Runs P ρ w0 own ops S Q β0 pend mask R st) (hp : pend'.Perm pend) : Runs P ρ w0 own ops S Q β0 pend' mask R st :=
  fun β a ac w lc la CR E h1 h2 h3 h4 h5 k hk => h β a ac w lc la CR E h1 h2 (h3.perm hp) h4 (h5.perm hp) k (by rw [← hp.length_eq]; exact hk)

theorem pass_sound (hs : Region.noSelect ops = true) {S : List Tmp} {Q : Exit → Act → World → Prop} (hQ : PanicOk S Q) {β0 : List Nat} {kf : List RI → Nat → Held → St → Tree (X × St)}
    (hk : ∀ kept mask R st, (kf kept mask R st).Sat ρ (LQ ρ w0 own β0 Q) → Runs P ρ w0 own ops S Q β0 kept mask R st) :
    ∀ (l kept : List RI) (mask : Nat) (R : Held) (st : St), (pass P S ops kf l kept mask R st).Sat ρ (LQ ρ w0 own β0 Q) → Runs P ρ w0 own ops S Q β0 (l ++ kept) mask R st
  | [], kept, mask, R, st, h => (hk _ _ _ _ h).perm (List.reverse_perm kept).symm
  | r :: l, kept, mask, R, st, h => by
    have keep : (pass P S ops kf l (r :: kept) mask R st).Sat ρ (LQ ρ w0 own β0 Q) → Runs P ρ w0 own ops S Q β0 (r :: l ++ kept) mask R st := fun h =>
      (pass_sound hs hQ hk l (r :: kept) mask R st h).perm List.perm_middle.symm
    simp only [pass] at h
    split at h
    · rename_i hc
      simp only [Bool.and_eq_true, Bool.not_eq_true'] at hc
      split at h
      · rename_i ns s R' hst
        intro β a ac w lc la CR E hb hR hI hH hE k hkk
        obtain ⟨hn, hl⟩ := Tree.sat_needs h
        obtain ⟨v, CR', g1, g2, g3, Si, g4, g5, g6⟩ := heldStep_sound (ops := ops) hR hH hst hn
        have hdst := hitsS_not hc.2
        have hI' : PI ops (r :: (l ++ kept)) mask lc := hI
        have hrm : r ∈ r :: (l ++ kept) := List.mem_cons_self ..
        -- it has not come early
        have hne : ∀ e ∈ E, e.r.i ≠ r.i := fun e he hc => by
          have : e.r = r := nodup_inj hI'.nd (hE.mem e he) hrm hc
          have h1 := allocR_held (ops := ops) (hE.al e he) R st
          rw [this, hst] at h1; cases h1
        have hlen : E.length < (r :: (l ++ kept)).length := by
          have := nodup_len (l := r.i :: E.map (·.r.i)) (m := (r :: (l ++ kept)).map (·.i)) (List.nodup_cons.2 ⟨fun hc => by
            obtain ⟨e, he, hec⟩ := List.mem_map.1 hc
            exact hne e he hec, hE.ndi⟩) (fun x hx => by
            rcases List.mem_cons.1 hx with rfl | hx
            · exact List.mem_map.2 ⟨r, hrm, rfl⟩
            · obtain ⟨e, he, rfl⟩ := List.mem_map.1 hx
              exact List.mem_map.2 ⟨e.r, hE.mem e he, rfl⟩)
          simp at this ⊢; omega
        obtain ⟨hx1, hx2⟩ := hE.looks hI' hrm hc.1.1 hne
        obtain ⟨e1, e2⟩ := hE.ag.exec (fun cs b => Region.noSelect_spec hs r.i r.o cs b (hI'.ok r hrm).get) hx1
        cases k with
        | zero => simp at hkk hlen; omega
        | succ k =>
          refine wpAnyJ_mono (S' := SJ ops CR') (fun j w hh x hx hnw => hh x (g3 x hx) hnw) _ _ _ _ ?_
          refine wpAnyJ_first (Si := Si) (hI'.ok r hrm).get (Region.noSelect_spec hs) (fun c a' w' hq => hQ c _ _ w' (by cases r.o.dst <;> rfl) (fun t ht => by
            cases hd : r.o.dst with
            | none => rfl
            | some d =>
              have hne : d ≠ t := fun hc => hdst d hd (hc ▸ ht)
              simp [Act.put, Array.getD_eq_getD_getElem?, Array.getElem?_setIfInBounds_ne hne]) hq) g5.1 g5.2 k la a w (hE.down hI') (fun j oj hj hne' hun hno => hI'.free hc.1.2 j oj hj hne' (by
              have hjs : j < la.size := by
                rcases Nat.lt_or_ge j la.size with h' | h'
                · exact h'
                · simp [Array.getElem?_eq_none h'] at hun
              have h0 : la.getD j false = false := by simp [hjs] at hun ⊢; exact hun
              rw [hE.lst, Bool.or_eq_false_iff] at h0
              have hjs' : j < lc.size := by rw [← hE.size]; exact hjs
              have := h0.1
              simp [hjs'] at this ⊢; exact this) hno) (hE.ready hI' hrm hc.1.1 hne) (g6.of_same e1 e2) g4 ?_
          exact pass_sound hs hQ hk l kept _ R' _ hl β _ _ w _ _ CR' E hb (hR.put r.o.dst g1) (hI'.take hc.1.1) g2 (hE.step hI' (List.Perm.refl _) hne (fun _ _ => rfl) (fun e he => (hE.fresh e he).1) (hE.ag.put hx2 v)) k (by simp at hkk ⊢; omega)
      · exact keep h
    · exact keep h

theorem mem_othersR {S : List Tmp} {r : RI} : ∀ {l : List RI}, r ∈ othersR P S l ↔ r ∈ l ∧ allocR P S r = false
  | [] => by simp [othersR]
  | x :: l => by
    simp only [othersR]
    have ih := mem_othersR (S := S) (r := r) (l := l)
    split
    · rename_i hx
      rw [ih]
      constructor
      · rintro ⟨h1, h2⟩; exact ⟨List.mem_cons_of_mem _ h1, h2⟩
      · rintro ⟨h1, h2⟩
        rcases List.mem_cons.1 h1 with rfl | h1
        · rw [h2] at hx; cases hx
        · exact ⟨h1, h2⟩
    · rename_i hx
      rw [List.mem_cons, ih, List.mem_cons]
      constructor
      · rintro (rfl | h)
        · exact ⟨.inl rfl, hx⟩
        · exact ⟨.inr h.1, h.2⟩
      · rintro ⟨rfl | h1, h2⟩
        · exact .inl rfl
        · exact .inr ⟨h1, h2⟩
theorem maskR_bit {r : RI} : ∀ {l : List RI}, r ∈ l → (maskR l).testBit r.i = true
  | x :: l, h => by
    simp only [maskR]
    rw [testBit_1or]
    rcases List.mem_cons.1 h with rfl | h
    · simp
    · simp [maskR_bit h]
theorem mem_without {i : Nat} {r : RI} (hne : r.i ≠ i) : ∀ {l : List RI}, r ∈ l → r ∈ without i l
  | x :: l, h => by
    simp only [without]
    split
    · rename_i hx
      rcases List.mem_cons.1 h with rfl | h
      · exact absurd (Nat.eq_of_beq_eq_true hx) hne
      · exact mem_without hne h
    · rcases List.mem_cons.1 h with rfl | h
      · exact List.mem_cons_self ..
      · exact List.mem_cons_of_mem _ (mem_without hne h)
theorem behindB_spec {j m : Nat} : ∀ {l : List RI}, behindB j mask m l = true → ∀ k ∈ l, inM k.deps mask = false → ∀ i, k.deps.testBit i = true → m.testBit i = true → k.tdeps.testBit j = true
  | [], _, k, hk, _, _, _, _ => by cases hk
  | x :: l, h, k, hk, hd, i, h1, h2 => by
    simp only [behindB, Bool.and_eq_true, Bool.or_eq_true] at h
    rcases List.mem_cons.1 hk with rfl | hk
    · rcases h.1 with (h3 | h3) | h3
      · rw [hd] at h3; cases h3
      · exfalso
        have h4 : k.deps &&& m = 0 := Nat.eq_of_beq_eq_true h3
        have := Nat.testBit_and k.deps m i
        rw [h4, h1, h2] at this
        simp at this
      · exact inM_sub h3 j (by show (2 ^ j).testBit j = true; simp)
    · exact behindB_spec h.2 k hk hd i h1 h2
/-- One that may come as it is told, the others of which may come at any time. -/
structure Chosen (P : Program) (S : List Tmp) (mask : Nat) (kept : List RI) (r : RI) : Prop where
  mem : r ∈ readyR mask kept
  others : ∀ x ∈ readyR mask kept, x.i ≠ r.i → allocR P S x = true
  behind : ∀ k ∈ kept, inM k.deps mask = false → ∀ x ∈ readyR mask kept, x.i ≠ r.i → k.deps.testBit x.i = true → k.tdeps.testBit r.i = true
theorem choose_spec {S : List Tmp} {kept : List RI} {r : RI} (h : choose P S mask kept (readyR mask kept) = some r) : Chosen P S mask kept r := by
  unfold choose at h
  split at h
  · rename_i ho
    split at h
    · simp at h
    · rename_i x l hrs
      split at h
      · rename_i hb
        simp only [Option.some.injEq] at h; subst h
        refine ⟨by rw [hrs]; exact List.mem_cons_self .., fun y hy hne => ?_, fun k hk hd y hy hne hbit => ?_⟩
        · cases ha : allocR P S y
          · have : y ∈ othersR P S (readyR mask kept) := mem_othersR.2 ⟨hy, ha⟩
            rw [ho] at this; cases this
          · rfl
        · refine behindB_spec hb k hk hd y.i hbit (maskR_bit ?_)
          rw [hrs] at hy
          rcases List.mem_cons.1 hy with rfl | hy
          · exact absurd rfl hne
          · exact hy
      · simp at h
  · rename_i x ho
    split at h
    · rename_i hb
      simp only [Option.some.injEq] at h; subst h
      have hx : x ∈ othersR P S (readyR mask kept) := by rw [ho]; exact List.mem_cons_self ..
      refine ⟨(mem_othersR.1 hx).1, fun y hy hne => ?_, fun k hk hd y hy hne hbit => ?_⟩
      · cases ha : allocR P S y
        · have : y ∈ othersR P S (readyR mask kept) := mem_othersR.2 ⟨hy, ha⟩
          rw [ho] at this
          have : y = x := by simpa using this
          exact absurd (by rw [this]) hne
        · rfl
      · exact behindB_spec hb k hk hd y.i hbit (maskR_bit (mem_without hne hy))
    · simp at h
  · simp at h

theorem evR_sound {K : CallK} (hK : ∀ w0 own, CallOk P ρ w0 own K) (hs : Region.noSelect ops = true) {S : List Tmp} {Q : Exit → Act → World → Prop} (hQ : PanicOk S Q) {n0 : Nat} {β0 : List Nat} (hn0 : n0 = β0.length) :
    ∀ (n : Nat) (pend : List RI) (mask : Nat) (R : Held) (st : St), (evR P K S n0 ops n pend mask R st).Sat ρ (LQ ρ w0 own β0 Q) → Runs P ρ w0 own ops S Q β0 pend mask R st
  | 0, _, _, _, _, h => h.elim
  | n + 1, pend, mask, R, st, h => by
    simp only [evR] at h
    have hfin := pass_sound (w0 := w0) (own := own) hs hQ ?_ pend [] mask R st h
    · simpa using hfin
    clear h R st mask pend
    intro kept mask R st h
    -- one that is carried out
    let stepT := fun (r : RI) => (stepOp P K ops r.o st).bind fun (x, st') => match x with
      | .normal => match stays r.tdeps st'.heap R with
        | true => evR P K S n0 ops n (without r.i kept) (Nat.lor mask (Nat.pow 2 r.i)) R st'
        | false => .bad "held"
      | x => .leaf (x, st')
    have one : ∀ r ∈ readyR mask kept, (stepT r).Sat ρ (LQ ρ w0 own β0 Q) → ∀ (β : List Nat) (a ac : Act) (w : World) (lc la : Array Bool) (CR : List CE) (E : List EE), β0 <+: β → Rel ρ w0 own st β ac w → PI ops kept mask lc → HeldRel ρ β R CR →
        Early P ρ w0 S kept mask lc la E β a ac w → (∀ e ∈ E, e.r.i ≠ r.i) → ∀ k, kept.length ≤ k + 1 + E.length →
        wpOp P ops Q r.i (fun a' w' => (Ext w w' ∨ SJ ops CR r.i w') ∧ wpAnyJ P .any ops Q (SJ ops CR) k (la.setIfInBounds r.i true) a' w') a w := by
      intro r hr h β a ac w lc la CR E hb hR hI hH hE hne k hk
      obtain ⟨hrm, hrd⟩ := mem_readyR.1 hr
      have hok := hI.ok r hrm
      have hperm := without_perm hI.nd hrm
      obtain ⟨hx1, hx2⟩ := hE.looks hI hrm hrd hne
      have hRs : Rel ρ w (ownOf st.heap β) st β ac w := ⟨hR.tm, hR.df, hR.hp.self, hR.pa⟩
      refine wpOp_mono (K := fun a' w' => ∃ ac', Ag (E.map EE.d) a' ac' ∧ (SJ ops CR r.i w' ∧ ∀ a', Ag (E.map EE.d) a' ac' → wpAnyJ P .any ops Q (SJ ops CR) k (la.setIfInBounds r.i true) a' w')) (fun a' w' ⟨ac', h1, h2, h3⟩ => ⟨.inr h2, h3 a' h1⟩)
        (wpOp_agree hE.ag hok.get (fun cs b => Region.noSelect_spec hs r.i r.o cs b hok.get) hx1 hx2 (hE.panic hQ) (stepOp_sound (w0 := w) (own := ownOf st.heap β) (hK _ _) hok.get hRs ((Tree.sat_bind h).mono fun xs hxs => ?_)))
      obtain ⟨x, st'⟩ := xs
      intro β' ac' w' hb' R' e he
      have R0 : Rel ρ w0 own st' β' ac' w' := ⟨R'.tm, R'.df, hR.hp.rebase R'.hp, R'.pa⟩
      cases x with
      | normal =>
        simp only [XRel] at he; subst he
        simp only at hxs
        split at hxs
        · rename_i hst
          refine ⟨fun x hx hnw => ?_, fun a' hag => ?_⟩
          · rcases stays_sound R'.hp hst (hH.mono hb') x hx with h1 | h1
            · exact absurd (hok.tdeps _ h1) hnw
            · exact h1
          · refine evR_sound hK hs hQ hn0 n _ _ R st' hxs β' a' ac' w' _ _ CR E (hb.trans hb') R0 ((hI.perm hperm).take hrd) (hH.mono hb') (hE.step hI hperm hne (fun e he => ?_) (fun e he hc => ?_) hag) k (by have := hperm.length_eq; simp at this; omega)
            · refine R'.hp.fr.block e.b (hE.lt he) fun hm => ?_
              obtain ⟨i, o, _, h2, _⟩ := hm
              exact (hE.fresh e he).1 (List.mem_of_getElem? h2)
            · rcases R'.hp.nw e.b hc with h1 | h1
              · exact (hE.fresh e he).1 h1
              · have := hE.lt he; omega
        · exact hxs.elim
      | exit id => simp only [XRel] at he; subst he; exact hxs β' ac' w' (hb.trans hb') R0 _ rfl
      | goto l => simp only [XRel] at he; subst he; exact hxs β' ac' w' (hb.trans hb') R0 _ rfl
      | ret => simp only [XRel] at he; subst he; exact hxs β' ac' w' (hb.trans hb') R0 _ rfl
      | panic s => obtain ⟨v, hv, rfl⟩ := he; exact hxs β' ac' w' (hb.trans hb') R0 _ ⟨v, hv, rfl⟩
    -- one that came early
    have absorb : ∀ (β : List Nat) (a ac : Act) (w : World) (lc la : Array Bool) (CR : List CE) (E : List EE), β0 <+: β → Rel ρ w0 own st β ac w → PI ops kept mask lc → HeldRel ρ β R CR →
        Early P ρ w0 S kept mask lc la E β a ac w → ∀ e ∈ E, (stepT e.r).Sat ρ (LQ ρ w0 own β0 Q) → ∀ k, kept.length ≤ k + E.length → wpAnyJ P .any ops Q (SJ ops CR) k la a w := by
      intro β a ac w lc la CR E hb hR hI hH hE e he h k hk
      obtain ⟨z, l, ho, hz, hl, hrel⟩ := hE.zero e he
      have hrm := hE.mem e he
      have hperm := without_perm hI.nd hrm
      have hst := stepOp_alloc (ops := ops) (K := K) (hE.al e he) ho hz hl st
      simp only [stepT, hst, Tree.bind] at h
      split at h
      · have hfr := hE.fresh e he
        have hlt := hE.lt he
        have hadopt : HRel ρ w0 own (st.heap ++ [.cells false l e.t]) (β ++ [e.b]) w := hR.hp.adopt hfr.1 hlt hfr.2 ⟨e.vs.toList, (0, 0), hrel.mono (List.nil_prefix), by simpa using hE.heap e he, fun _ => rfl⟩
        have hbb : β <+: β ++ [e.b] := List.prefix_append _ _
        have hptr : (SV.ptr st.heap.length 0).rel ρ (β ++ [e.b]) (.pointer (some ⟨e.b, 0, none⟩)) := ⟨e.b, by rw [← hR.hp.len, List.getElem?_append_right (Nat.le_refl _)]; simp, rfl⟩
        obtain ⟨s, t, hEq⟩ := List.append_of_mem he
        have hsub : ∀ x ∈ s ++ t, x ∈ E := fun x hx => by
          rw [hEq]
          rcases List.mem_append.1 hx with hx | hx
          · exact List.mem_append_left _ hx
          · exact List.mem_append_right _ (List.mem_cons_of_mem _ hx)
        have hpE : E.Perm (e :: (s ++ t)) := by rw [hEq]; exact List.perm_middle
        have hndi := (hpE.map (·.r.i)).nodup_iff.1 hE.ndi
        have hndb := (hpE.map (·.b)).nodup_iff.1 hE.ndb
        simp only [List.map_cons, List.nodup_cons] at hndi hndb
        have hnei : ∀ x ∈ s ++ t, x.r.i ≠ e.r.i := fun x hx hc => hndi.1 (List.mem_map.2 ⟨x, hx, hc⟩)
        have hneb : ∀ x ∈ s ++ t, x.b ≠ e.b := fun x hx hc => hndb.1 (List.mem_map.2 ⟨x, hx, hc⟩)
        have hlti : e.r.i < lc.size := by rw [hI.size]; exact hI.lt hrm
        refine evR_sound hK hs hQ hn0 n _ _ R _ h (β ++ [e.b]) a (ac.put e.r.o.dst (.pointer (some ⟨e.b, 0, none⟩))) w _ la CR (s ++ t) (hb.trans hbb) ((hR.heap hbb hadopt hR.pa).put _ hptr) ((hI.perm hperm).take (hE.rdy e he)) (hH.mono hbb) ?_ k
          (by have h1 := hperm.length_eq; have h2 := hpE.length_eq; simp at h1 h2 ⊢; omega)
        refine ⟨fun x hx => ?_, fun x hx => inM_of fun k hk => ?_, fun x hx => hE.al x (hsub x hx), fun x hx => hE.zero x (hsub x hx), fun x hx => hE.heap x (hsub x hx), fun x hx => ⟨fun hc => ?_, (hE.fresh x (hsub x hx)).2⟩, hndb.2, hndi.2, ?_, by simp [hE.size], fun i => ?_⟩
        · rcases List.mem_cons.1 (hperm.subset (hE.mem x (hsub x hx))) with h1 | h1
          · exact absurd (by rw [h1]) (hnei x hx)
          · exact h1
        · rw [testBit_or1, inM_sub (hE.rdy x (hsub x hx)) k hk]; rfl
        · rcases List.mem_append.1 hc with hc | hc
          · exact (hE.fresh x (hsub x hx)).1 hc
          · exact hneb x hx (by simpa using hc)
        · refine ⟨by rw [hE.ag.df]; cases e.r.o.dst <;> rfl, by rw [hE.ag.sz]; cases e.r.o.dst <;> simp [Act.put], fun d hd => ?_, fun y hy d hyd hlt' => ?_⟩
          · cases hdd : e.r.o.dst with
            | none =>
              refine hE.ag.same d fun y hy => ?_
              obtain ⟨x, hx, rfl⟩ := List.mem_map.1 hy
              rcases List.mem_cons.1 (hpE.subset hx) with h1 | h1
              · rw [h1]; simp [EE.d, hdd]
              · exact hd _ (List.mem_map.2 ⟨x, h1, rfl⟩)
            | some d0 =>
              simp only [Act.put]
              by_cases hdd0 : d0 = d
              · subst hdd0
                have hsz : a.tmps.size = ac.tmps.size := hE.ag.sz
                by_cases hl' : d0 < a.tmps.size
                · rw [hE.ag.is e.d (List.mem_map.2 ⟨e, he, rfl⟩) d0 (by simp [EE.d, hdd]) hl', Array.getElem?_setIfInBounds_self_of_lt (by rw [← hsz]; exact hl')]
                  rfl
                · have g1 : a.tmps.size ≤ d0 := Nat.le_of_not_lt hl'
                  have g2 : ac.tmps.size ≤ d0 := hsz ▸ g1
                  rw [Array.getElem?_eq_none g1, Array.getElem?_eq_none (by simpa using g2)]
              · rw [Array.getElem?_setIfInBounds_ne hdd0]
                refine hE.ag.same d fun y hy => ?_
                obtain ⟨x, hx, rfl⟩ := List.mem_map.1 hy
                rcases List.mem_cons.1 (hpE.subset hx) with h1 | h1
                · rw [h1]; simp [EE.d, hdd, hdd0]
                · exact hd _ (List.mem_map.2 ⟨x, h1, rfl⟩)
          · obtain ⟨x, hx, rfl⟩ := List.mem_map.1 hy
            exact hE.ag.is x.d (List.mem_map.2 ⟨x, hsub x hx, rfl⟩) d hyd hlt'
        · rw [hE.lst]
          have h1 : E.any (·.r.i == i) = (decide (e.r.i = i) || (s ++ t).any (·.r.i == i)) := by
            rw [hEq]; simp only [List.any_append, List.any_cons]
            have : (e.r.i == i) = decide (e.r.i = i) := by by_cases h : e.r.i = i <;> simp [h]
            rw [this]
            cases s.any (·.r.i == i) <;> cases t.any (·.r.i == i) <;> simp
          rw [h1]
          by_cases hi : e.r.i = i
          · subst hi; simp [hlti]
          · rw [getD_set_ne false hi]; simp [hi]
      · exact h.elim
    have count : ∀ {lc la : Array Bool} {E : List EE} {β : List Nat} {a ac : Act} {w : World}, PI ops kept mask lc → Early P ρ w0 S kept mask lc la E β a ac w → ∀ r ∈ kept, (∀ e ∈ E, e.r.i ≠ r.i) → E.length < kept.length := by
      intro lc la E β a ac w hI hE r hrm hne
      have := nodup_len (l := r.i :: E.map (·.r.i)) (m := kept.map (·.i)) (List.nodup_cons.2 ⟨fun hc => by
        obtain ⟨e, he, hec⟩ := List.mem_map.1 hc
        exact hne e he hec, hE.ndi⟩) (fun x hx => by
        rcases List.mem_cons.1 hx with rfl | hx
        · exact List.mem_map.2 ⟨r, hrm, rfl⟩
        · obtain ⟨e, he, rfl⟩ := List.mem_map.1 hx
          exact List.mem_map.2 ⟨e.r, hE.mem e he, rfl⟩)
      simp at this; omega
    -- one is chosen
    have chosen : ∀ r, Chosen P S mask kept r → (stepT r).Sat ρ (LQ ρ w0 own β0 Q) → Runs P ρ w0 own ops S Q β0 kept mask R st := by
      intro r hc h β a ac w lc la CR E hb hR hI hH hE k
      induction k generalizing a w la E with
      | zero =>
        intro hk
        obtain ⟨hrm, hrd⟩ := mem_readyR.1 hc.mem
        rcases Classical.em (∃ e ∈ E, e.r.i = r.i) with ⟨e, he, hei⟩ | hno
        · have : e.r = r := nodup_inj hI.nd (hE.mem e he) hrm hei
          exact absorb β a ac w lc la CR E hb hR hI hH hE e he (by rw [this]; exact h) 0 hk
        · have := count hI hE r hrm fun e he hei => hno ⟨e, he, hei⟩
          omega
      | succ k ih =>
        intro hk
        obtain ⟨hrm, hrd⟩ := mem_readyR.1 hc.mem
        rcases Classical.em (∃ e ∈ E, e.r.i = r.i) with ⟨e, he, hei⟩ | hno
        · have : e.r = r := nodup_inj hI.nd (hE.mem e he) hrm hei
          exact absorb β a ac w lc la CR E hb hR hI hH hE e he (by rw [this]; exact h) (k + 1) hk
        · have hne : ∀ e ∈ E, e.r.i ≠ r.i := fun e he hei => hno ⟨e, he, hei⟩
          refine ⟨fun h0 => ?_, fun i hi => ?_⟩
          · have := hE.ready hI hrm hrd hne
            rw [h0] at this; cases this
          · obtain ⟨x, hxm, rfl, hxn, hx⟩ := hE.ready_of hI hi
            by_cases hxr : x.i = r.i
            · rw [hxr]
              exact one r hc.mem h β a ac w lc la CR E hb hR hI hH hE hne k (by omega)
            · rcases hx with hxd | ⟨hxd, e, he, hbit⟩
              · -- a new variable comes early
                have hxr' : x ∈ readyR mask kept := mem_readyR.2 ⟨hxm, hxd⟩
                have hal := hc.others x hxr' hxr
                obtain ⟨hg, _, hhit, elem, z, l, ho, hz, hl⟩ := allocR_spec hal
                obtain ⟨zv, hzr, hzrun⟩ := run_zeroS hz ρ []
                obtain ⟨hcr, _⟩ := scells_rel hl hzr
                have hok := hI.ok x hxm
                obtain ⟨hx1, hx2⟩ := hE.looks hI hxm hxd hxn
                unfold wpOp
                simp only [hok.get]
                rw [if_pos (by simp [Region.wanted, hg])]
                left
                unfold Oper.wp
                have hrun : (execOp a.eval x.o).run P w = .ok (.value (.pointer (some ⟨w.heap.size, 0, none⟩))) { w with heap := w.heap.push (.cells zv.cells elem) } := by
                  have : execOp a.eval x.o = execOp a.eval { x.o with op := .alloc elem } := by rw [← ho]
                  rw [this]
                  simp [execOp, Instr.alloc, hzrun, run_newVar']
                rw [hrun]
                refine ⟨.inl (ext_push _ _), ?_⟩
                have hlt' : x.i < lc.size := by rw [hI.size]; exact hI.lt hxm
                refine ih _ _ _ ({ r := x, b := w.heap.size, vs := zv.cells, t := elem } :: E) ⟨hR.tm, hR.df, hR.hp.more _, hR.pa⟩ ?_ (by simp; omega)
                refine ⟨fun e he => ?_, fun e he => ?_, fun e he => ?_, fun e he => ?_, fun e he => ?_, fun e he => ?_, ?_, ?_, ?_, by simp [hE.size], fun i => ?_⟩
                · rcases List.mem_cons.1 he with rfl | he
                  · exact hxm
                  · exact hE.mem e he
                · rcases List.mem_cons.1 he with rfl | he
                  · exact hxd
                  · exact hE.rdy e he
                · rcases List.mem_cons.1 he with rfl | he
                  · exact hal
                  · exact hE.al e he
                · rcases List.mem_cons.1 he with rfl | he
                  · exact ⟨z, l, ho, hz, hl, hcr⟩
                  · exact hE.zero e he
                · rcases List.mem_cons.1 he with rfl | he
                  · show (w.heap.push _)[w.heap.size]? = _
                    simp
                  · exact ext_push w _ _ _ (hE.heap e he)
                · rcases List.mem_cons.1 he with rfl | he
                  · exact ⟨fun hc => by have := hR.hp.lt _ hc; simp at this, hR.hp.fr.size⟩
                  · exact hE.fresh e he
                · simp only [List.map_cons]
                  refine List.nodup_cons.2 ⟨fun hc => ?_, hE.ndb⟩
                  obtain ⟨e, he, hec⟩ := List.mem_map.1 hc
                  have := hE.lt he
                  omega
                · simp only [List.map_cons]
                  refine List.nodup_cons.2 ⟨fun hc => ?_, hE.ndi⟩
                  obtain ⟨e, he, hec⟩ := List.mem_map.1 hc
                  exact hxn e he hec
                · refine ⟨by rw [← hE.ag.df]; cases x.o.dst <;> rfl, by rw [← hE.ag.sz]; cases x.o.dst <;> simp [Act.put], fun t ht => ?_, fun y hy t hyt hlt => ?_⟩
                  · simp only [List.map_cons, List.mem_cons, forall_eq_or_imp] at ht
                    rw [← hE.ag.same t ht.2]
                    have h0 := ht.1
                    simp only [EE.d] at h0
                    cases hdd : x.o.dst with
                    | none => rfl
                    | some d0 =>
                      rw [hdd] at h0
                      simp only [Act.put]
                      rw [Array.getElem?_setIfInBounds_ne (by intro hc; exact h0 (by rw [hc]))]
                  · simp only [List.map_cons, List.mem_cons] at hy
                    rcases hy with rfl | hy
                    · simp only [EE.d] at hyt ⊢
                      rw [hyt] at hlt ⊢
                      simp only [Act.put] at hlt ⊢
                      rw [Array.getElem?_setIfInBounds_self_of_lt (by simpa using hlt)]
                    · have h1 := hx2 y hy t hyt
                      cases hdd : x.o.dst with
                      | none => rw [hdd] at hlt; exact hE.ag.is y hy t hyt hlt
                      | some d0 =>
                        rw [hdd] at h1 hlt
                        simp only [Act.put] at hlt ⊢
                        rw [Array.getElem?_setIfInBounds_ne (by intro hc; exact h1 (by rw [hc]))]
                        exact hE.ag.is y hy t hyt (by simpa using hlt)
                · simp only [List.any_cons]
                  have hla : x.i < la.size := by rw [hE.size]; exact hlt'
                  by_cases hi : x.i = i
                  · subst hi; simp [hla]
                  · rw [getD_set_ne false hi, hE.lst]
                    have : (x.i == i) = false := by simpa using hi
                    rw [this, Bool.false_or]
              · -- it waits for one that came early, and so for the chosen one
                exfalso
                have her : e.r ∈ readyR mask kept := mem_readyR.2 ⟨hE.mem e he, hE.rdy e he⟩
                have h1 := hc.behind x hxm hxd e.r her (hne e he) hbit
                have h2 := (hI.ok x hxm).tdeps r.i h1
                have h3 := h2.listed (hE.down hI) fun o ho y hy hb => by
                  obtain ⟨_, o', ho', hall⟩ := mem_ready.1 hi
                  rw [ho] at ho'; simp only [Option.some.injEq] at ho'; subst ho'
                  exact hall y hy hb
                rw [hE.unl hI hrm hne] at h3
                cases h3
    split at h
    · -- all have come
      intro β a ac w lc la CR E hb hR hI hH hE k hk
      have hE0 : E = [] := by
        cases E with
        | nil => rfl
        | cons e E => have := hE.mem e (List.mem_cons_self ..); cases this
      subst hE0
      have hr : Region.ready .any ops la = [] := by
        apply List.eq_nil_iff_forall_not_mem.2
        intro i hi
        obtain ⟨r, hr, _⟩ := hE.ready_of hI hi
        cases hr
      have haa : a = ac := by
        have h1 := hE.ag.df
        have h2 : a.tmps = ac.tmps := Array.ext_getElem? fun t => hE.ag.same t (by simp)
        cases a; cases ac; simp only at h1 h2; rw [h1, h2]
      have hq : Q .normal a w := by rw [haa]; exact h β ac w hb hR .normal rfl
      cases k with
      | zero => exact ⟨hr, hq⟩
      | succ k => exact ⟨fun _ => hq, by rw [hr]; simp⟩
    · rename_i y ys
      split at h
      · exact h.elim
      · rename_i r hr
        refine chosen r ⟨by rw [hr]; exact List.mem_cons_self .., fun x hx hne => ?_, fun k hk hd x hx hne => ?_⟩ h
        · rw [hr] at hx
          exact absurd (by rw [List.mem_singleton.1 hx]) hne
        · rw [hr] at hx
          exact absurd (by rw [List.mem_singleton.1 hx]) hne
      · rename_i rs hne1 hne2
        split at h
        · rename_i r hr
          exact chosen r (choose_spec hr) h
        · have hall : ∀ r ∈ readyR mask (y :: ys), (stepT r).Sat ρ (LQ ρ w0 own β0 Q) := fun r hr => tidyT_sound hn0 (mergeT_sound h _ (List.mem_map.2 ⟨r, hr, rfl⟩))
          intro β a ac w lc la CR E hb hR hI hH hE k hk
          cases E with
          | cons e E =>
            exact absorb β a ac w lc la CR (e :: E) hb hR hI hH hE e (List.mem_cons_self ..) (hall e.r (mem_readyR.2 ⟨hE.mem e (List.mem_cons_self ..), hE.rdy e (List.mem_cons_self ..)⟩)) k hk
          | nil =>
            cases k with
            | zero => simp at hk
            | succ k =>
              refine ⟨fun h0 => ?_, fun i hi => ?_⟩
              · cases hrs : readyR mask (y :: ys) with
                | nil => exact absurd hrs hne1
                | cons r rs' =>
                  have hrr : r ∈ readyR mask (y :: ys) := by rw [hrs]; exact List.mem_cons_self ..
                  obtain ⟨hrm, hrd⟩ := mem_readyR.1 hrr
                  have := hE.ready hI hrm hrd (by simp)
                  rw [h0] at this; cases this
              · obtain ⟨x, hxm, rfl, hxn, hx⟩ := hE.ready_of hI hi
                rcases hx with hxd | ⟨_, e, he, _⟩
                · have hxr : x ∈ readyR mask (y :: ys) := mem_readyR.2 ⟨hxm, hxd⟩
                  exact one x hxr (hall x hxr) β a ac w lc la CR [] hb hR hI hH hE (by simp) k (by simpa using hk)
                · cases he
end Go.Sx
