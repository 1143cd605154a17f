/- Memory that is known in part, and the operations that look at it or turn it. -/
import Derived.Test.YtpamdmikdnoplaaSxE
import Derived.MapKept
import Derived.Laws.IdiomCopy
namespace Go.Sx
set_option linter.unusedVariables false
variable {P : Program} {ρ : Env}

/-- A block that is known: its cells; the entries of a map; only that it is there. -/
inductive SO
  | cells (ro : Bool) (l : List SV) (t : TypeId)
  | map (l : List (SV × SV))
  | any
  deriving DecidableEq, Repr, Inhabited

def RelM (ρ : Env) (β : List Nat) : List (SV × SV) → List MapEntry → Prop
  | [], es => es = []
  | (k, v) :: l, es => ∃ e r, es = e :: r ∧ k.rel ρ β e.key ∧ v.rel ρ β e.val ∧ RelM ρ β l r
theorem RelM.mono {β β' : List Nat} (hb : β <+: β') : ∀ {l : List (SV × SV)} {es : List MapEntry}, RelM ρ β l es → RelM ρ β' l es
  | [], _, h => h
  | (k, v) :: l, _, h => by obtain ⟨e, r, rfl, h1, h2, h3⟩ := h; exact ⟨e, r, rfl, h1.mono hb, h2.mono hb, h3.mono hb⟩
theorem RelM.append {β : List Nat} {k v : SV} {e : MapEntry} (hk : k.rel ρ β e.key) (hv : v.rel ρ β e.val) : ∀ {l : List (SV × SV)} {es : List MapEntry}, RelM ρ β l es →
    RelM ρ β (l ++ [(k, v)]) (es ++ [e])
  | [], _, h => by simp [RelM] at h; subst h; exact ⟨e, [], rfl, hk, hv, rfl⟩
  | (k', v') :: l, _, h => by obtain ⟨e', r, rfl, h1, h2, h3⟩ := h; exact ⟨e', _, rfl, h1, h2, h3.append hk hv⟩
theorem RelM.length {β : List Nat} : ∀ {l : List (SV × SV)} {es : List MapEntry}, RelM ρ β l es → l.length = es.length
  | [], _, h => by simp [RelM] at h; simp [h]
  | (k, v) :: l, _, h => by obtain ⟨e, r, rfl, _, _, h3⟩ := h; simp [h3.length]

def SO.holds (ρ : Env) (β : List Nat) (w : World) (b : Nat) : SO → Prop
  | .cells ro l t => ∃ vs fz, RelL ρ β l vs ∧ w.heap[b]? = some (.cells vs.toArray t fz) ∧ (ro = false → fz = (0, 0))
  | .map l => ∃ es clock, RelM ρ β l es ∧ w.heap[b]? = some (.map es.toArray clock)
  | .any => True
def SO.mine : SO → Bool
  | .cells ro _ _ => !ro
  | .map _ => true
  | .any => false

/-- Blocks of the first world that may be turned; blocks of it that are known. -/
structure Own where
  m : Nat → Prop
  d : Nat → Prop
structure Fr (w0 : World) (own : Own) (w : World) : Prop where
  os : w.os = w0.os
  tape : w.tape = w0.tape
  output : w.output = w0.output
  size : w0.heap.size ≤ w.heap.size
  block : ∀ k, k < w0.heap.size → ¬ own.m k → w.heap[k]? = w0.heap[k]?
theorem Fr.refl (w : World) (own : Own) : Fr w own w := ⟨rfl, rfl, rfl, Nat.le_refl _, fun _ _ _ => rfl⟩

structure HRel (ρ : Env) (w0 : World) (own : Own) (h : List SO) (β : List Nat) (w : World) : Prop where
  len : β.length = h.length
  nd : β.Nodup
  lt : ∀ b ∈ β, b < w.heap.size
  holds : ∀ (i : Nat) (o : SO) (b : Nat), h[i]? = some o → β[i]? = some b → o.holds ρ β w b
  mine : ∀ (i : Nat) (o : SO) (b : Nat), h[i]? = some o → β[i]? = some b → o.mine = true → own.m b ∨ w0.heap.size ≤ b
  nw : ∀ b ∈ β, own.d b ∨ w0.heap.size ≤ b
  fr : Fr w0 own w

theorem SO.holds_of {β β' : List Nat} (hb : β <+: β') {w w' : World} {b : Nat} (he : w'.heap[b]? = w.heap[b]?) {o : SO} (h : o.holds ρ β w b) : o.holds ρ β' w' b := by
  cases o with
  | cells ro l t => obtain ⟨vs, fz, h1, h2, h3⟩ := h; exact ⟨vs, fz, h1.mono hb, by rw [he]; exact h2, h3⟩
  | map l => obtain ⟨es, c, h1, h2⟩ := h; exact ⟨es, c, h1.mono hb, by rw [he]; exact h2⟩
  | any => trivial

/-- A new block. -/
theorem HRel.push {w0 : World} {own : Own} {h : List SO} {β : List Nat} {w : World} (H : HRel ρ w0 own h β w) {o : SO} {ob : Obj}
    (ho : o.holds ρ (β ++ [w.heap.size]) { w with heap := w.heap.push ob } w.heap.size) :
    HRel ρ w0 own (h ++ [o]) (β ++ [w.heap.size]) { w with heap := w.heap.push ob } := by
  have hpre : β <+: β ++ [w.heap.size] := List.prefix_append _ _
  have hget : ∀ k, k < w.heap.size → (w.heap.push ob)[k]? = w.heap[k]? := fun k hk => by rw [Array.getElem?_push, if_neg (by omega)]
  refine ⟨by simp [H.len], ?_, ?_, ?_, ?_, ?_, ?_⟩
  · rw [List.nodup_append]
    refine ⟨H.nd, by simp, fun a ha b hb => ?_⟩
    have := H.lt a ha
    simp at hb; omega
  · intro b hb
    rcases List.mem_append.1 hb with hb | hb
    · have := H.lt b hb; simp; omega
    · simp at hb; subst hb; simp
  · intro i o' b hi hb
    by_cases hlt : i < h.length
    · rw [List.getElem?_append_left hlt] at hi
      rw [List.getElem?_append_left (by rw [H.len]; exact hlt)] at hb
      exact SO.holds_of hpre (hget b (H.lt b (List.mem_of_getElem? hb))) (H.holds i o' b hi hb)
    · have hlt' : i - h.length = 0 := by
        rw [List.getElem?_append_right (by omega)] at hi
        have := (List.getElem?_eq_some_iff.1 hi).1
        simp at this; omega
      rw [List.getElem?_append_right (by omega), hlt'] at hi
      rw [List.getElem?_append_right (by rw [H.len]; omega), H.len, hlt'] at hb
      simp at hi hb; subst hi hb
      exact ho
  · intro i o' b hi hb hm
    by_cases hlt : i < h.length
    · rw [List.getElem?_append_left hlt] at hi
      rw [List.getElem?_append_left (by rw [H.len]; exact hlt)] at hb
      exact H.mine i o' b hi hb hm
    · have hlt' : i - h.length = 0 := by
        rw [List.getElem?_append_right (by omega)] at hi
        have := (List.getElem?_eq_some_iff.1 hi).1
        simp at this; omega
      rw [List.getElem?_append_right (by rw [H.len]; omega), H.len, hlt'] at hb
      simp at hb; subst hb
      exact .inr H.fr.size
  · intro b hb
    rcases List.mem_append.1 hb with hb | hb
    · exact H.nw b hb
    · simp at hb; subst hb; exact .inr H.fr.size
  · exact ⟨H.fr.os, H.fr.tape, H.fr.output, by have := H.fr.size; simp; omega, fun k hk hn => by
      show (w.heap.push ob)[k]? = _
      have := H.fr.size
      rw [hget k (by omega)]; exact H.fr.block k hk hn⟩

/-- A block of one's own is turned. -/
theorem HRel.turn {w0 : World} {own : Own} {h : List SO} {β : List Nat} {w w' : World} (H : HRel ρ w0 own h β w) {i b : Nat} {o o' : SO} (hi : h[i]? = some o) (hb : β[i]? = some b)
    (hm : o.mine = true) (hos : w'.os = w.os) (htp : w'.tape = w.tape) (hout : w'.output = w.output) (hsz : w'.heap.size = w.heap.size) (hot : ∀ k, k ≠ b → w'.heap[k]? = w.heap[k]?)
    (ho : o'.holds ρ β w' b) : HRel ρ w0 own (h.set i o') β w' := by
  refine ⟨by simp [H.len], H.nd, fun x hx => by rw [hsz]; exact H.lt x hx, ?_, ?_, H.nw, ?_⟩
  · intro j o1 b1 hj hb1
    by_cases hij : i = j
    · subst hij
      have : i < h.length := (List.getElem?_eq_some_iff.1 hi).1
      rw [List.getElem?_set_self this] at hj
      simp only [Option.some.injEq] at hj; subst hj
      rw [hb] at hb1; simp only [Option.some.injEq] at hb1; subst hb1
      exact ho
    · rw [List.getElem?_set_ne hij] at hj
      have hne : b1 ≠ b := by
        intro e; subst e
        have h1 := (List.getElem?_eq_some_iff.1 hb).1
        have h2 := (List.getElem?_eq_some_iff.1 hb1).1
        exact hij ((List.getElem_inj H.nd).1 (by rw [(List.getElem?_eq_some_iff.1 hb).2, (List.getElem?_eq_some_iff.1 hb1).2]))
      exact SO.holds_of (List.prefix_refl _) (hot b1 hne) (H.holds j o1 b1 hj hb1)
  · intro j o1 b1 hj hb1 hm1
    by_cases hij : i = j
    · subst hij
      exact H.mine i o b1 hi hb1 hm
    · rw [List.getElem?_set_ne hij] at hj
      exact H.mine j o1 b1 hj hb1 hm1
  · have hmine := H.mine i o b hi hb hm
    exact ⟨hos.trans H.fr.os, htp.trans H.fr.tape, hout.trans H.fr.output, by rw [hsz]; exact H.fr.size, fun k hk hn => by
      rw [hot k (by rintro rfl; rcases hmine with h | h; exact hn h; omega)]; exact H.fr.block k hk hn⟩

theorem heap_setCell (w : World) (b o : Nat) (v : Value) {C : Array Value} {t : TypeId} {fz : Nat × Nat} (hb : w.heap[b]? = some (.cells C t fz)) :
    (w.setCell ⟨b, o, none⟩ v).heap[b]? = some (.cells (C.setIfInBounds o v) t fz) := by
  simp [World.setCell, Array.getElem?_modify, hb]
theorem heap_setCell_other (w : World) (b o : Nat) (v : Value) (k : Nat) (hk : k ≠ b) : (w.setCell ⟨b, o, none⟩ v).heap[k]? = w.heap[k]? := by
  simp only [World.setCell, Array.getElem?_modify]
  rw [if_neg (by omega)]
theorem setCells_block (b : Nat) (t : TypeId) (fz : Nat × Nat) : ∀ (vs : List Value) (o : Nat) (w : World) (C : List Value), w.heap[b]? = some (.cells C.toArray t fz) → o + vs.length ≤ C.length →
    (w.setCells b o vs).heap[b]? = some (.cells (splice C o vs).toArray t fz) ∧ (∀ k, k ≠ b → (w.setCells b o vs).heap[k]? = w.heap[k]?) ∧
    (w.setCells b o vs).heap.size = w.heap.size ∧ (w.setCells b o vs).os = w.os ∧ (w.setCells b o vs).tape = w.tape ∧ (w.setCells b o vs).output = w.output ∧ (w.setCells b o vs).drawn = w.drawn
  | [], o, w, C, hb, _ => ⟨by simpa [World.setCells, splice_nil] using hb, fun _ _ => rfl, rfl, rfl, rfl, rfl, rfl⟩
  | v :: vs, o, w, C, hb, hl => by
    simp only [List.length_cons] at hl
    have h1 : (w.setCell ⟨b, o, none⟩ v).heap[b]? = some (.cells (C.set o v).toArray t fz) := by
      rw [heap_setCell w b o v hb]; simp
    obtain ⟨g1, g2, g3, g4, g5, g6, g7⟩ := setCells_block b t fz vs (o + 1) (w.setCell ⟨b, o, none⟩ v) (C.set o v) h1 (by simp; omega)
    rw [splice_cons (by omega)] at g1
    exact ⟨g1, fun k hk => (g2 k hk).trans (heap_setCell_other w b o v k hk), g3.trans (by simp [World.setCell]), g4, g5, g6, g7⟩

/-- The temporaries, as a tree by number. -/
inductive TT
  | nil
  | node (l : TT) (v : SV) (r : TT)
  deriving DecidableEq, Repr, Inhabited
namespace TT
def get : TT → Nat → SV
  | .nil, _ => .unk
  | .node l v r, i => match Nat.beq i 0 with
    | true => v
    | false => match Nat.beq (Nat.mod i 2) 1 with
      | true => l.get (Nat.div i 2)
      | false => r.get (Nat.sub (Nat.div i 2) 1)
def set : TT → Nat → SV → TT
  | .nil, _, _ => .nil
  | .node l v r, i, s => match Nat.beq i 0 with
    | true => .node l s r
    | false => match Nat.beq (Nat.mod i 2) 1 with
      | true => .node (l.set (Nat.div i 2) s) v r
      | false => .node l v (r.set (Nat.sub (Nat.div i 2) 1) s)
def full (s : SV) : Nat → TT
  | 0 => .nil
  | n + 1 => .node (full s n) s (full s n)
def map (f : SV → SV) : TT → TT
  | .nil => .nil
  | .node l v r => .node (l.map f) (f v) (r.map f)
def flat (f : SV → List Nat) : TT → List Nat
  | .nil => []
  | .node l v r => l.flat f ++ (f v ++ r.flat f)
theorem get_full (s : SV) : ∀ (n i : Nat), (full s n).get i = s ∨ (full s n).get i = .unk
  | 0, i => .inr rfl
  | n + 1, i => by
    simp only [full, get]
    split
    · exact .inl rfl
    · split
      · exact get_full s n _
      · exact get_full s n _
theorem get_map (f : SV → SV) : ∀ (t : TT) (i : Nat), (t.map f).get i = f (t.get i) ∨ (t.map f).get i = .unk
  | .nil, i => .inr rfl
  | .node l v r, i => by
    simp only [map, get]
    split
    · exact .inl rfl
    · split
      · exact get_map f l _
      · exact get_map f r _
theorem get_set (s : SV) : ∀ (t : TT) (i j : Nat), (t.set i s).get j = .unk ∨ (t.set i s).get j = (if i = j then s else t.get j)
  | .nil, i, j => .inl rfl
  | .node l v r, i, j => by
    have hb : ∀ n m : Nat, Nat.beq n m = decide (n = m) := fun n m => by
      cases h : Nat.beq n m
      · have := Nat.ne_of_beq_eq_false h; simp [this]
      · have := Nat.eq_of_beq_eq_true h; simp [this]
    have hm : ∀ n, Nat.mod n 2 = n % 2 := fun _ => rfl
    have hd : ∀ n, Nat.div n 2 = n / 2 := fun _ => rfl
    have hs : ∀ n, Nat.sub n 1 = n - 1 := fun _ => rfl
    have ihl := get_set s l (i / 2) (j / 2)
    have ihr := get_set s r (i / 2 - 1) (j / 2 - 1)
    simp only [set, hb, hm, hd, hs]
    by_cases h0 : i = 0
    · subst h0
      simp only [decide_true, get, hb, hm, hd, hs]
      by_cases hj : j = 0
      · subst hj; simp
      · simp only [hj, decide_false, if_neg (Ne.symm hj)]; exact .inr trivial
    · simp only [h0, decide_false]
      by_cases hi1 : i % 2 = 1
      · simp only [hi1, decide_true, get, hb, hm, hd, hs]
        by_cases hj : j = 0
        · subst hj; simp [h0]
        · simp only [hj, decide_false]
          by_cases hj1 : j % 2 = 1
          · simp only [hj1, decide_true]
            have : (i / 2 = j / 2) ↔ i = j := by omega
            simpa only [this] using ihl
          · simp only [hj1, decide_false]
            have : i ≠ j := by rintro rfl; exact hj1 hi1
            simp [this]
      · simp only [hi1, decide_false, get, hb, hm, hd, hs]
        by_cases hj : j = 0
        · subst hj; simp [h0]
        · simp only [hj, decide_false]
          by_cases hj1 : j % 2 = 1
          · simp only [hj1, decide_true]
            have : i ≠ j := by rintro rfl; exact hi1 hj1
            simp [this]
          · simp only [hj1, decide_false]
            have : (i / 2 - 1 = j / 2 - 1) ↔ i = j := by omega
            simpa only [this] using ihr
end TT
structure St where
  tmps : TT
  nt : Nat
  defers : List (FuncId × List SV × List SV)
  heap : List SO
  path : List E
  deriving DecidableEq, Repr, Inhabited
structure TRel (ρ : Env) (β : List Nat) (t : TT) (n : Nat) (tmps : Array Value) : Prop where
  size : tmps.size = n
  get : ∀ i v, tmps[i]? = some v → (t.get i).rel ρ β v
theorem TRel.mono {β β' : List Nat} (hb : β <+: β') {t : TT} {n : Nat} {tmps : Array Value} (h : TRel ρ β t n tmps) : TRel ρ β' t n tmps := ⟨h.size, fun i v hi => (h.get i v hi).mono hb⟩
theorem TRel.set {β : List Nat} {t : TT} {n : Nat} {tmps : Array Value} (h : TRel ρ β t n tmps) {d : Nat} {s : SV} {v : Value} (hv : s.rel ρ β v) : TRel ρ β (t.set d s) n (tmps.setIfInBounds d v) := by
  refine ⟨by simp [h.size], fun i u hi => ?_⟩
  rcases TT.get_set s t d i with e | e
  · rw [e]; trivial
  · rw [e]
    by_cases hd : d = i
    · subst hd
      rw [if_pos rfl]
      have hlt : d < tmps.size := by have := (Array.getElem?_eq_some_iff.1 hi).1; simpa using this
      rw [Array.getElem?_setIfInBounds_self_of_lt hlt] at hi
      simp only [Option.some.injEq] at hi; subst hi; exact hv
    · rw [if_neg hd]
      rw [Array.getElem?_setIfInBounds_ne hd] at hi
      exact h.get i u hi

def RelD (ρ : Env) (β : List Nat) : List (FuncId × List SV × List SV) → List Deferred → Prop
  | [], ds => ds = []
  | (f, args, caps) :: l, ds => ∃ va vc r, ds = { target := .fn (.func f) vc, args := va } :: r ∧ RelL ρ β args va.toList ∧ RelL ρ β caps vc.toList ∧ RelD ρ β l r
theorem RelD.mono {β β' : List Nat} (hb : β <+: β') : ∀ {l : List (FuncId × List SV × List SV)} {ds : List Deferred}, RelD ρ β l ds → RelD ρ β' l ds
  | [], _, h => h
  | (f, a, c) :: l, _, h => by obtain ⟨va, vc, r, rfl, h1, h2, h3⟩ := h; exact ⟨va, vc, r, rfl, h1.mono hb, h2.mono hb, h3.mono hb⟩

structure Rel (ρ : Env) (w0 : World) (own : Own) (st : St) (β : List Nat) (a : Act) (w : World) : Prop where
  tm : TRel ρ β st.tmps st.nt a.tmps
  df : RelD ρ β st.defers a.defers
  hp : HRel ρ w0 own st.heap β w
  pa : ρ.Path st.path

def St.ev (st : St) : Operand → SV
  | .tmp t => match Nat.blt t st.nt with
    | true => st.tmps.get t
    | false => .tup .nil
  | .const v => ofConst v
  | .global _ => .unk
  | .func f => .fn f .nil
theorem Rel.ev {w0 : World} {own : Own} {st : St} {β : List Nat} {a : Act} {w : World} (R : Rel ρ w0 own st β a w) (x : Operand) : (st.ev x).rel ρ β (a.eval x) := by
  cases x with
  | tmp t =>
    simp only [St.ev, Act.eval, Array.getD_eq_getD_getElem?]
    split
    · rename_i h
      have hlt : t < a.tmps.size := by rw [R.tm.size]; exact Nat.le_of_ble_eq_true h
      rw [Array.getElem?_eq_getElem hlt]
      exact R.tm.get t _ (Array.getElem?_eq_getElem hlt)
    · rename_i h
      have : a.tmps[t]? = none := by
        rw [Array.getElem?_eq_none_iff, R.tm.size]
        have h' : Nat.ble (t + 1) st.nt = false := h
        exact Nat.le_of_not_lt fun hc => by rw [Nat.ble_eq_true_of_le hc] at h'; simp at h'
      rw [this]
      exact ⟨[], rfl, rfl⟩
  | const v => exact ofConst_rel _ _ _
  | global g => trivial
  | func f => exact ⟨[], rfl, rfl⟩

/-- What an operation does that looks at memory. -/
inductive Res
  | val (s : SV) (h : List SO)
  | skip (h : List SO)
  | call (f : FuncId) (args : List SV)
  | defr (f : FuncId) (args caps : List SV)
  | panic (s : SV)
  | bad (msg : String)
  deriving Repr, Inhabited

def Res.holds (ρ : Env) (w0 : World) (own : Own) (β : List Nat) (w : World) (r : Result Next) : Res → Prop
  | .val s h => ∃ v w' β', r = .ok (.value v) w' ∧ β <+: β' ∧ s.rel ρ β' v ∧ HRel ρ w0 own h β' w'
  | .skip h => ∃ w' β', r = .ok .skip w' ∧ β <+: β' ∧ HRel ρ w0 own h β' w'
  | .call f args => ∃ vs, r = .ok (.enter f vs) w ∧ RelL ρ β args vs.toList
  | .defr f args caps => ∃ va vc, r = .ok (.defer { target := .fn (.func f) vc, args := va }) w ∧ RelL ρ β args va.toList ∧ RelL ρ β caps vc.toList
  | .panic s => ∃ v, r = .halt (.panic v) w ∧ s.rel ρ β v
  | .bad _ => True

def loadX (P : Program) (t : TypeId) (l : List SV) (base stride cnt : Nat) (e : E) : Option SV :=
  match P.underlying t with
  | some (.struct _) | some (.array _ _) => if (P.info? t).isSome && decide (1 ≤ P.cellsOf t) then (rowS e l base stride cnt (P.cellsOf t)).map fun r => .agg (.ofL r) else none
  | some _ => if decide (1 ≤ P.cellsOf t) then (rowS e l base stride cnt (P.cellsOf t)).bind fun r => r[0]? else none
  | none => none
def loadS (P : Program) (t : TypeId) (h : List SO) (x : SV) : Option SV :=
  match x with
  | .ptr i off => match h[i]? with
    | some (.cells _ l _) => if off + P.cellsOf t ≤ l.length then partS P t l off else none
    | _ => none
  | .ptrx i base stride cnt e => match h[i]? with
    | some (.cells _ l _) => loadX P t l base stride cnt e
    | _ => none
  | _ => none
def storeS (P : Program) (t : TypeId) (h : List SO) (x y : SV) : Option (List SO) :=
  match x with
  | .ptr i off => match h[i]?, scells y with
    | some (.cells false l et), some new => if (P.info? t).isSome && decide (new.length = P.cellsOf t) && decide (off + new.length ≤ l.length) then some (h.set i (.cells false (splice l off new) et)) else none
    | _, _ => none
  | .ptrx i base stride cnt e => match h[i]?, scells y with
    | some (.cells false l et), some new => if (P.info? t).isSome && decide (new.length = P.cellsOf t) then (putRow e new base stride cnt l).map fun l' => h.set i (.cells false l' et) else none
    | _, _ => none
  | _ => none
def findS (k : SV) : List (SV × SV) → Option (Option SV)
  | [] => some none
  | (k', v) :: l => match k, k' with
    | .int x (.lit a), .int y (.lit b) => if x = y then (if a = b then some (some v) else findS k l) else none
    | _, _ => none
def buildSliceS (P : Program) (t : TypeId) (len : Nat) (parts : List (Nat × SV)) (h : List SO) : Option (SV × List SO) :=
  match P.underlying t with
  | some (.slice elem) => match zeroS P elem with
    | some z => match scells z with
      | some zc =>
        let size := P.cellsOf elem
        if (P.info? elem).isSome && decide (len * size ≤ 2 ^ 24) && decide (0 < len * size) && decide (0 < zc.length) then
          (fillS (fun i => some (i * size, size)) ((List.range (len * size)).map fun j => zc.getD (j % zc.length) .unk) parts).map fun l =>
            (.slc h.length 0 (.lit len) (.lit len), h ++ [.cells false l elem])
        else none
      | none => none
    | none => none
  | _ => none
def makeSliceS (P : Program) (t : TypeId) (len cap : SV) (h : List SO) : Option (SV × List SO) :=
  match P.underlying t, len, cap with
  | some (.slice elem), .int _ (.lit n), .int _ (.lit m) => match P.info? elem, zeroS P elem with
    | some i, some z => match scells z with
      | some zc =>
        if n = m ∧ 0 ≤ n ∧ n ≤ 65536 ∧ IntKind.i64.wrap n = n ∧ i.bytes * n.toNat ≤ 2 ^ 40 ∧ 0 < zc.length then
          some (.slc h.length 0 (.lit n) (.lit n), h ++ [.cells false ((List.range (n.toNat * P.cellsOf elem)).map fun j => zc.getD (j % zc.length) .unk) elem])
        else none
      | none => none
    | _, _ => none
  | _, _, _ => none
def isCallee : Callee → Option Operand
  | .value f => some f
  | _ => none

def evMem (P : Program) (st : St) (op : Op) : Res :=
  let g := fun x => stripC st.path (st.ev x)
  match op with
  | .alloc elem => match zeroS P elem with
    | some z => match scells z with
      | some l => .val (.ptr st.heap.length 0) (st.heap ++ [.cells false l elem])
      | none => .bad "alloc"
    | none => .bad "alloc zero"
  | .box elem x => match scells (g x) with
    | some l => .val (.ptr st.heap.length 0) (st.heap ++ [.cells false l elem])
    | none => .bad "box"
  | .buildSlice t len parts => match buildSliceS P t len (parts.toList.map fun (i, x) => (i, g x)) st.heap with
    | some (s, h) => .val s h
    | none => .bad "buildSlice"
  | .makeSlice t l c => match makeSliceS P t (g l) (g c) st.heap with
    | some (s, h) => .val s h
    | none => .bad "makeSlice"
  | .load t x => match loadS P t st.heap (g x) with
    | some s => .val s st.heap
    | none => .bad "load"
  | .store t x y => match storeS P t st.heap (g x) (g y) with
    | some h => .skip h
    | none => .bad "store"
  | .makeMap t none => .val (.map st.heap.length) (st.heap ++ [.map []])
  | .makeMap t (some r) => match P.underlying t, g r with
    | some (.map _ _), .int _ _ => .val (.map st.heap.length) (st.heap ++ [.map []])
    | _, _ => .bad "makeMap"
  | .insert t m k v => match P.underlying t, g m with
    | some (.map kt _), .map i => match P.underlying kt, st.heap[i]? with
      | some (.int _), some (.map l) => match findS (g k) l with
        | some none => match g k with
          | .int _ _ => .skip (st.heap.set i (.map (l ++ [(g k, g v)])))
          | _ => .bad "insert key"
        | _ => .bad "insert"
      | _, _ => .bad "insert map"
    | _, _ => .bad "insert type"
  | .lookup t m k ok => match P.underlying t, g m with
    | some (.map kt et), .map i => match P.underlying kt, st.heap[i]? with
      | some (.int _), some (.map l) => match litP st.path (g k) with
        | .int _ _ => match findS (litP st.path (g k)) l with
          | some (some v) => .val (if ok then .tup (.cons v (.cons (.bool tt) .nil)) else v) st.heap
          | some none => match zeroS P et with
            | some z => .val (if ok then .tup (.cons z (.cons (.bool ff) .nil)) else z) st.heap
            | none => .bad "lookup zero"
          | none => .bad "lookup find"
        | _ => .bad "lookup key"
      | _, _ => .bad "lookup map"
    | _, _ => .bad "lookup type"
  | .call { callee := .value f, args, argTypes } => match g f with
    | .fn n caps => match P.funcs[n]? with
      | some fn => if fn.name == "runtime.NumGoroutine" || fn.body.isNone then .bad "call: no body" else .call n (args.toList.map g ++ caps.toL)
      | none => .bad "call: none"
    | _ => .bad "call"
  | .defer { callee := .value f, args, argTypes } => match g f with
    | .fn n caps => .defr n (args.toList.map g) caps.toL
    | _ => .bad "defer"
  | .panic x => match g x with
    | .ifc t v => .panic (.ifc t v)
    | _ => .bad "panic"
  | _ => .bad "op"
end Go.Sx
