/- Expressions put for variables; contracts of functions that look at no memory. -/
import Derived.Test.YtpamdmikdnoplaaSxL
namespace Go.Sx
open Go.RowKit
set_option linter.unusedVariables false
variable {P : Program}

/-- A number as a truth value. -/
def i2b : E → E
  | .lit n => if n = 0 then ff else tt
  | .bvar i => .bvar i
  | .ite c (.lit 1) (.lit 0) => c
  | e => .not (.eq e (.lit 0))
theorem denB_i2b (ρ : Env) (e : E) : (i2b e).denB ρ = (e.den ρ != 0) := by
  unfold i2b; split
  · rename_i n; by_cases h : n = 0 <;> simp [h, E.den, E.denB, ff, tt]
  · rename_i i; simp only [E.denB, E.den]; cases ρ.b i <;> rfl
  · rename_i c; simp only [E.den]; cases c.denB ρ <;> rfl
  · simp [E.den, E.denB, bne]
def nthE : E → Nat → E
  | .cons a _, 0 => a
  | .cons _ b, n + 1 => nthE b n
  | _, _ => .lit 0
theorem den_nthE (ρ : Env) : ∀ (l : E) (n : Nat), (nthE l n).den ρ = (l.denL ρ).getD n 0
  | .cons a b, 0 => by simp [nthE, E.denL]
  | .cons a b, n + 1 => by simp only [nthE, den_nthE ρ b n, E.denL]; simp
  | .lit _, n | .var _, n | .bvar _, n | .bin .., n | .wrap .., n | .lt .., n | .le .., n | .eq .., n | .beq .., n | .not _, n | .ite .., n | .app .., n | .nil, n => by cases n <;> simp [nthE, E.denL, E.den]
/-- A function of numbers; one of several, where it is known which. -/
def mkApp (f : Nat) (args : E) : E :=
  match f, args with
  | 70, .cons (.lit n) l => nthE l n.toNat
  | f, args => .app f args
theorem den_mkApp (ρ : Env) (f : Nat) (args : E) : (mkApp f args).den ρ = appI ρ f (args.denL ρ) := by
  unfold mkApp; split
  · rename_i n l; rw [den_nthE]; rfl
  · rfl
def mkAppB (f : Nat) (args : E) : E :=
  match f, args with
  | 70, .cons (.lit n) l => i2b (nthE l n.toNat)
  | f, args => .app f args
theorem denB_mkAppB (ρ : Env) (f : Nat) (args : E) : (mkAppB f args).denB ρ = (appI ρ f (args.denL ρ) != 0) := by
  unfold mkAppB; split
  · rename_i n l; rw [denB_i2b, den_nthE]; rfl
  · rfl

mutual
def E.subI (σ : List E) : E → E
  | .lit n => .lit n
  | .var i => (σ[i]?).getD (.lit 0)
  | .bvar i => b2i (i2b ((σ[i]?).getD (.lit 0)))
  | .bin op k a b => .mkBin op k (a.subI σ) (b.subI σ)
  | .wrap k a => .mkWrap k (a.subI σ)
  | .ite c a b => .mkIte (c.subB σ) (a.subI σ) (b.subI σ)
  | .app f args => mkApp f (args.subL σ)
  | .lt .. => .lit 0 | .le .. => .lit 0 | .eq .. => .lit 0 | .beq .. => .lit 0 | .not _ => .lit 0 | .nil => .lit 0 | .cons .. => .lit 0
def E.subB (σ : List E) : E → E
  | .lit n => .lit n
  | .var _ => ff
  | .bvar i => i2b ((σ[i]?).getD (.lit 0))
  | .lt a b => .mkLt (a.subI σ) (b.subI σ)
  | .le a b => .mkLe (a.subI σ) (b.subI σ)
  | .eq a b => .mkEq (a.subI σ) (b.subI σ)
  | .beq a b => .mkBeq (a.subB σ) (b.subB σ)
  | .not a => .mkNot (a.subB σ)
  | .ite c a b => .mkIteB (c.subB σ) (a.subB σ) (b.subB σ)
  | .app f args => mkAppB f (args.subL σ)
  | .bin .. => ff | .wrap .. => ff | .nil => ff | .cons .. => ff
def E.subL (σ : List E) : E → E
  | .cons a b => .cons (a.subI σ) (b.subL σ)
  | .lit _ => .nil | .var _ => .nil | .bvar _ => .nil | .bin .. => .nil | .wrap .. => .nil | .lt .. => .nil | .le .. => .nil | .eq .. => .nil | .beq .. => .nil | .not _ => .nil | .ite .. => .nil | .app .. => .nil | .nil => .nil
end
def Env.sub (ρ : Env) (σ : List E) : Env := { i := fun j => ((σ[j]?).getD (.lit 0)).den ρ, b := fun j => ((σ[j]?).getD (.lit 0)).den ρ != 0, v := ρ.v, I := ρ.I, vc := ρ.vc }
theorem appI_sub (ρ : Env) (σ : List E) (f : Nat) (l : List Int) : appI (ρ.sub σ) f l = appI ρ f l := by unfold appI; split <;> rfl
theorem sub_all (ρ : Env) (σ : List E) (e : E) : (e.subI σ).den ρ = e.den (ρ.sub σ) ∧ (e.subB σ).denB ρ = e.denB (ρ.sub σ) ∧ (e.subL σ).denL ρ = e.denL (ρ.sub σ) := by
  induction e with
  | lit n => exact ⟨rfl, rfl, rfl⟩
  | var i => exact ⟨rfl, rfl, rfl⟩
  | bvar i =>
    refine ⟨?_, ?_, rfl⟩
    · simp only [E.subI, den_b2i, denB_i2b, E.den]; rfl
    · simp only [E.subB, denB_i2b, E.denB]; rfl
  | bin op k a b iha ihb => exact ⟨by simp only [E.subI, E.den_mkBin, E.den, iha.1, ihb.1], rfl, rfl⟩
  | wrap k a ih => exact ⟨by simp only [E.subI, E.den_mkWrap, E.den, ih.1], rfl, rfl⟩
  | lt a b iha ihb => exact ⟨rfl, by simp only [E.subB, E.denB_mkLt, E.denB, iha.1, ihb.1], rfl⟩
  | le a b iha ihb => exact ⟨rfl, by simp only [E.subB, E.denB_mkLe, E.denB, iha.1, ihb.1], rfl⟩
  | eq a b iha ihb => exact ⟨rfl, by simp only [E.subB, E.denB_mkEq, E.denB, iha.1, ihb.1], rfl⟩
  | beq a b iha ihb => exact ⟨rfl, by simp only [E.subB, E.denB_mkBeq, E.denB, iha.2.1, ihb.2.1], rfl⟩
  | not a ih => exact ⟨rfl, by simp only [E.subB, E.denB_mkNot, E.denB, ih.2.1], rfl⟩
  | ite c a b ihc iha ihb => exact ⟨by simp only [E.subI, E.den_mkIte, E.den, ihc.2.1, iha.1, ihb.1], by simp only [E.subB, E.denB_mkIteB, E.denB, ihc.2.1, iha.2.1, ihb.2.1], rfl⟩
  | app f args ih => exact ⟨by simp only [E.subI, den_mkApp, E.den, ih.2.2, appI_sub], by simp only [E.subB, denB_mkAppB, E.denB, ih.2.2, appI_sub], rfl⟩
  | nil => exact ⟨rfl, rfl, rfl⟩
  | cons a b iha ihb => exact ⟨rfl, rfl, by simp only [E.subL, E.denL, iha.1, ihb.2.2]⟩

def SV.sub (σ : List E) : SV → SV
  | .int k e => .int k (e.subI σ)
  | .bool e => .bool (e.subB σ)
  | .ptr i o => .ptr i o
  | .ptrx i b s c e => .ptrx i b s c (e.subI σ)
  | .pnil => .pnil
  | .fn f c => .fn f (c.sub σ)
  | .nilfn => .nilfn
  | .map i => .map i
  | .mapnil => .mapnil
  | .slc i o l c => .slc i o (l.subI σ) (c.subI σ)
  | .snil => .snil
  | .ifc t v => .ifc t (v.sub σ)
  | .nilif => .nilif
  | .val i => .val i
  | .str l => .str l
  | .agg l => .agg (l.sub σ)
  | .tup l => .tup (l.sub σ)
  | .cond g v => .cond (g.subB σ) (v.sub σ)
  | .unk => .unk
  | .nil => .nil
  | .cons a l => .cons (a.sub σ) (l.sub σ)
theorem sub_rel (ρ : Env) (σ : List E) (β : List Nat) (s : SV) : (∀ v, (s.sub σ).rel ρ β v ↔ s.rel (ρ.sub σ) β v) ∧ (∀ vs, (s.sub σ).relS ρ β vs ↔ s.relS (ρ.sub σ) β vs) := by
  induction s with
  | int k e => simp [SV.sub, SV.rel, SV.relS, (sub_all ρ σ e).1]
  | bool e => simp [SV.sub, SV.rel, SV.relS, (sub_all ρ σ e).2.1]
  | ptrx i b s c e => simp [SV.sub, SV.rel, SV.relS, (sub_all ρ σ e).1]
  | slc i o l c => simp [SV.sub, SV.rel, SV.relS, (sub_all ρ σ l).1, (sub_all ρ σ c).1]
  | fn f c ih => simp [SV.sub, SV.rel, SV.relS, ih.2]
  | ifc t v ih => simp [SV.sub, SV.rel, SV.relS, ih.1]
  | agg l ih => simp [SV.sub, SV.rel, SV.relS, ih.2]
  | tup l ih => simp [SV.sub, SV.rel, SV.relS, ih.2]
  | cond g v ih => simp [SV.sub, SV.rel, SV.relS, ih.1, (sub_all ρ σ g).2.1]
  | cons a l iha ihl => simp [SV.sub, SV.rel, SV.relS, iha.1, ihl.2]
  | val i => simp [SV.sub, SV.rel, SV.relS, Env.sub]
  | _ => simp [SV.sub, SV.rel, SV.relS]

/- Arguments of a shape. -/
def cellsE : List Kd → List SV → Option (List E)
  | [], [] => some []
  | none :: ks, .bool e :: l => (cellsE ks l).map (b2i e :: ·)
  | some k :: ks, .int k' e :: l => if k = k' then (cellsE ks l).map (e :: ·) else none
  | _, _ => none
def argsE : List Sh → List SV → Option (List E)
  | [], [] => some []
  | .one k :: sh, a :: l => match cellsE [k] [a], argsE sh l with
    | some x, some y => some (x ++ y)
    | _, _ => none
  | .row ks :: sh, .agg c :: l => match cellsE ks c.toL, argsE sh l with
    | some x, some y => some (x ++ y)
    | _, _ => none
  | _, _ => none
theorem cellsE_len : ∀ {ks : List Kd} {l : List SV} {x : List E}, cellsE ks l = some x → x.length = ks.length := by
  intro ks
  induction ks with
  | nil => intro l x h; cases l <;> simp [cellsE] at h; subst h; rfl
  | cons k ks ih =>
    intro l x h
    cases k with
    | none =>
      cases l with
      | nil => simp [cellsE] at h
      | cons a l =>
        cases a <;> simp only [cellsE, Option.map_eq_some_iff, reduceCtorEq] at h
        obtain ⟨r, h1, rfl⟩ := h
        simp [ih h1]
    | some k =>
      cases l with
      | nil => simp [cellsE] at h
      | cons a l =>
        cases a <;> simp only [cellsE, reduceCtorEq] at h
        split at h
        · simp only [Option.map_eq_some_iff] at h
          obtain ⟨r, h1, rfl⟩ := h
          simp [ih h1]
        · cases h
theorem cellsE_rel {ρ : Env} {β β' : List Nat} : ∀ {ks : List Kd} {l : List SV} {x : List E} {vs : List Value} (pre post : List E), cellsE ks l = some x → RelL ρ β l vs → RelL (ρ.sub (pre ++ (x ++ post))) β' (symL pre.length ks) vs := by
  intro ks
  induction ks with
  | nil => intro l x vs pre post h hr; cases l <;> simp [cellsE] at h; exact hr
  | cons k ks ih =>
    intro l x vs pre post h hr
    cases k with
    | none =>
      cases l with
      | nil => simp [cellsE] at h
      | cons a l =>
        cases a <;> simp only [cellsE, Option.map_eq_some_iff, reduceCtorEq] at h
        rename_i e
        obtain ⟨r, h1, rfl⟩ := h
        obtain ⟨v, q, rfl, h2, h3⟩ := hr
        refine ⟨v, q, rfl, ?_, ?_⟩
        · simp only [SV.rel] at h2
          subst h2
          have hx : (pre ++ (b2i e :: r ++ post))[pre.length]? = some (b2i e) := by rw [List.getElem?_append_right (Nat.le_refl _)]; simp
          simp only [symC, SV.rel, E.denB, Env.sub, hx, Option.getD_some, den_b2i]
          cases e.denB ρ <;> rfl
        · have := ih (pre ++ [b2i e]) post h1 h3
          simpa using this
    | some k =>
      cases l with
      | nil => simp [cellsE] at h
      | cons a l =>
        cases a <;> simp only [cellsE, reduceCtorEq] at h
        rename_i k' e
        split at h
        · rename_i hk; subst hk
          simp only [Option.map_eq_some_iff] at h
          obtain ⟨r, h1, rfl⟩ := h
          obtain ⟨v, q, rfl, h2, h3⟩ := hr
          refine ⟨v, q, rfl, ?_, ?_⟩
          · simp only [SV.rel] at h2
            subst h2
            have hx : (pre ++ (e :: r ++ post))[pre.length]? = some e := by rw [List.getElem?_append_right (Nat.le_refl _)]; simp
            simp only [symC, SV.rel, E.den, Env.sub, hx, Option.getD_some]
          · have := ih (pre ++ [e]) post h1 h3
            simpa using this
        · cases h
theorem argsE_rel {ρ : Env} {β β' : List Nat} : ∀ {sh : List Sh} {l : List SV} {x : List E} {vs : List Value} (pre post : List E), argsE sh l = some x → RelL ρ β l vs → RelL (ρ.sub (pre ++ (x ++ post))) β' (symA pre.length sh) vs := by
  intro sh
  induction sh with
  | nil => intro l x vs pre post h hr; cases l <;> simp [argsE] at h; exact hr
  | cons s sh ih =>
    intro l x vs pre post h hr
    cases s with
    | one k =>
      cases l with
      | nil => simp [argsE] at h
      | cons a l =>
        simp only [argsE] at h
        split at h
        · rename_i y z h1 h2
          simp only [Option.some.injEq] at h; subst h
          obtain ⟨v, q, rfl, h3, h4⟩ := hr
          have hl := cellsE_len h1
          have g1 := cellsE_rel (ρ := ρ) (β := β) (β' := β') pre (z ++ post) h1 (vs := [v]) ⟨v, [], rfl, h3, rfl⟩
          obtain ⟨v', q', e1, g2, _⟩ := g1
          simp only [List.cons.injEq] at e1
          obtain ⟨rfl, _⟩ := e1
          refine ⟨v, q, rfl, by simpa [Sh.sym] using g2, ?_⟩
          have := ih (pre ++ y) post h2 h4
          rw [List.length_append, hl] at this
          simpa [Sh.ks] using this
        · cases h
    | row ks =>
      cases l with
      | nil => simp [argsE] at h
      | cons a l =>
        cases a <;> simp only [argsE, reduceCtorEq] at h
        rename_i c
        split at h
        · rename_i y z h1 h2
          simp only [Option.some.injEq] at h; subst h
          obtain ⟨v, q, rfl, h3, h4⟩ := hr
          have hl := cellsE_len h1
          simp only [SV.rel] at h3
          obtain ⟨vs, h5, rfl⟩ := h3
          have g1 := cellsE_rel (ρ := ρ) (β := β) (β' := β') pre (z ++ post) h1 (relS_toL h5)
          refine ⟨_, q, rfl, ⟨vs, relS_ofL (by simpa using g1), rfl⟩, ?_⟩
          have := ih (pre ++ y) post h2 h4
          rw [List.length_append, hl] at this
          simpa [Sh.ks] using this
        · cases h

/- What a function returns, by what it is given. -/
structure PC where
  shs : List Sh
  pre : List E
  post : SV
def PC.ctr (c : PC) : Ctr := fun args h p => match argsE c.shs args with
  | some σ => .needs ((c.pre.map (E.subB σ)).filter fun n => decideE p n != some true) (.leaf (.ret (c.post.sub σ), h, p))
  | none => .bad "arguments of a contract"
def PC.Ok (P : Program) (I : Nat → List Int → Int) (f : FuncId) (c : PC) : Prop := ∀ ρ : Env, ρ.I = I → (∀ e ∈ c.pre, e.denB ρ = true) → ∀ vals, RelL ρ [] (symA 0 c.shs) vals.toList → ∀ W,
  Calls P f vals W fun e W' => ∃ v, c.post.rel ρ [] v ∧ e = .returned v ∧ Fr W noOwn W'
theorem PC.ok {I : Nat → List Int → Int} {f : FuncId} {c : PC} (h : c.Ok P I f) {ρ : Env} (hI : ρ.I = I) (w0 : World) (own : Own) : CtrOk P ρ w0 own f c.ctr := by
  intro args h' p L hs β w vals H hp hr
  unfold PC.ctr at hs
  split at hs
  · rename_i σ hσ
    obtain ⟨h1, h2⟩ := Tree.sat_needs hs
    have h1 := unfilter hp h1
    have g := argsE_rel (ρ := ρ) (β := β) (β' := []) [] [] hσ hr
    simp only [List.nil_append, List.append_nil, List.length_nil] at g
    refine (h (ρ.sub σ) hI (fun e he => ?_) vals g w).mono fun e w' he => ?_
    · rw [← (sub_all ρ σ e).2.1]; exact h1 _ (List.mem_map.2 ⟨e, he, rfl⟩)
    · obtain ⟨v, hv, rfl, hF⟩ := he
      have hv' := ((sub_rel ρ σ [] c.post).1 v).2 hv
      exact ⟨.ret (c.post.sub σ), h', p, β, h2, List.prefix_refl _, H.frame hF, hp, v, hv'.mono (List.nil_prefix), rfl⟩
  · exact hs.elim

/- What is equal, if some numbers are. -/
def eqSV : SV → SV → Option (List E)
  | .int k a, .int k' b => if k = k' then some (if a = b then [] else [.eq a b]) else none
  | .bool a, .bool b => some (if a = b then [] else [.beq a b])
  | .agg l, .agg m => eqSV l m
  | .tup l, .tup m => eqSV l m
  | .cons a l, .cons b m => match eqSV a b, eqSV l m with
    | some x, some y => some (x ++ y)
    | _, _ => none
  | .nil, .nil => some []
  | a, .unk => match a with
    | .nil => none | .cons .. => none
    | _ => some []
  | _, _ => none
theorem eqSV_rel {ρ : Env} {β : List Nat} (a : SV) : ∀ b es, eqSV a b = some es → (∀ e ∈ es, e.denB ρ = true) → (∀ v, a.rel ρ β v → b.rel ρ β v) ∧ (∀ vs, a.relS ρ β vs → b.relS ρ β vs) := by
  induction a with
  | int k x =>
    intro b es h hn
    cases b <;> simp only [eqSV, reduceCtorEq] at h
    · split at h
      · rename_i hk; subst hk
        simp only [Option.some.injEq] at h; subst h
        refine ⟨fun v hv => ?_, fun vs hv => hv.elim⟩
        simp only [SV.rel] at hv ⊢
        split at hn
        · rename_i hx; subst hx; exact hv
        · have := hn _ (List.mem_singleton_self _)
          simp only [E.denB, beq_iff_eq] at this
          rw [← this]; exact hv
      · cases h
    · exact ⟨fun v hv => trivial, fun vs hv => hv.elim⟩
  | bool x =>
    intro b es h hn
    cases b <;> simp only [eqSV, reduceCtorEq] at h
    · simp only [Option.some.injEq] at h; subst h
      refine ⟨fun v hv => ?_, fun vs hv => hv.elim⟩
      simp only [SV.rel] at hv ⊢
      split at hn
      · rename_i hx; subst hx; exact hv
      · have := hn _ (List.mem_singleton_self _)
        simp only [E.denB, beq_iff_eq] at this
        rw [← this]; exact hv
    · exact ⟨fun v hv => trivial, fun vs hv => hv.elim⟩
  | agg l ih =>
    intro b es h hn
    cases b <;> simp only [eqSV, reduceCtorEq] at h
    · obtain ⟨g1, g2⟩ := ih _ _ h hn
      refine ⟨fun v hv => ?_, fun vs hv => hv.elim⟩
      simp only [SV.rel] at hv ⊢
      obtain ⟨vs, h1, h2⟩ := hv
      exact ⟨vs, g2 _ h1, h2⟩
    · exact ⟨fun v hv => trivial, fun vs hv => hv.elim⟩
  | tup l ih =>
    intro b es h hn
    cases b <;> simp only [eqSV, reduceCtorEq] at h
    · obtain ⟨g1, g2⟩ := ih _ _ h hn
      refine ⟨fun v hv => ?_, fun vs hv => hv.elim⟩
      simp only [SV.rel] at hv ⊢
      obtain ⟨vs, h1, h2⟩ := hv
      exact ⟨vs, g2 _ h1, h2⟩
    · exact ⟨fun v hv => trivial, fun vs hv => hv.elim⟩
  | cons x l ihx ihl =>
    intro b es h hn
    cases b <;> simp only [eqSV, reduceCtorEq] at h
    rename_i y m
    split at h
    · rename_i e1 e2 h1 h2
      simp only [Option.some.injEq] at h; subst h
      refine ⟨fun v hv => hv.elim, fun vs hv => ?_⟩
      simp only [SV.relS] at hv ⊢
      obtain ⟨v, r, rfl, g1, g2⟩ := hv
      exact ⟨v, r, rfl, (ihx _ _ h1 fun e he => hn e (List.mem_append_left _ he)).1 _ g1, (ihl _ _ h2 fun e he => hn e (List.mem_append_right _ he)).2 _ g2⟩
    · cases h
  | nil =>
    intro b es h hn
    cases b <;> simp only [eqSV, reduceCtorEq] at h
    exact ⟨fun v hv => hv.elim, fun vs hv => hv⟩
  | _ =>
    intro b es h hn
    cases b <;> simp only [eqSV, reduceCtorEq] at h
    exact ⟨fun v hv => trivial, fun vs hv => hv.elim⟩
def andL : List E → E
  | [] => tt
  | e :: l => .mkAnd e (andL l)
theorem denB_andL (ρ : Env) : ∀ {l : List E}, (andL l).denB ρ = true → ∀ e ∈ l, e.denB ρ = true
  | [], _, e, he => by cases he
  | x :: l, h, e, he => by
    simp only [andL, E.denB_mkAnd, Bool.and_eq_true] at h
    rcases List.mem_cons.1 he with rfl | he
    · exact h.1
    · exact denB_andL ρ h.2 e he
def chk (post : SV) (t : Tree (Out × List SO × List E)) : Tree (Out × List SO × List E) := t.bind fun (o, _, p) => match o with
  | .ret s => match eqSV s post with
    | some es => .leaf (.ret (.bool (andL es)), [], p)
    | none => .bad "what is returned"
  | .pan _ => .bad "panics"
theorem PC.of_tree {I : Nat → List Int → Int} {C : FuncId → Option Ctr} (hC : ∀ ρ : Env, ρ.I = I → ∀ f c, C f = some c → ∀ w0 own, CtrOk P ρ w0 own f c) {N n : Nat} {f : FuncId} {c : PC} {Γ : List (Int × Int)} {T : NT}
    (hlow : c.post.low 0 = true) (hev : finT Γ (chk c.post (evFn P C N n f (symA 0 c.shs) [] c.pre)) = T) (hΓ : ∀ ρ : Env, ρ.I = I → (∀ e ∈ c.pre, e.denB ρ = true) → ρ.Fits Γ)
    (hT : ∀ ρ : Env, ρ.I = I → (∀ e ∈ c.pre, e.denB ρ = true) → ρ.Fits Γ → T.Holds ρ) : c.Ok P I f := by
  intro ρ hI hpre vals hrel W
  have hf := hΓ ρ hI hpre
  have hs := Tree.sat_bind (finT_sound hf (t := chk c.post (evFn P C N n f (symA 0 c.shs) [] c.pre)) (by rw [hev]; exact hT ρ hI hpre hf))
  have H : HRel ρ W noOwn [] [] W := ⟨rfl, List.nodup_nil, by simp, by simp, by simp, by simp, Fr.refl _ _⟩
  refine (evFn_sound (P := P) (hC ρ hI) n W noOwn f _ [] _ _ hs [] W vals H hpre hrel).mono fun e W' he => ?_
  obtain ⟨out, h', p', β', hL, _, H', hp', ho⟩ := he
  cases out with
  | pan s => exact hL.elim
  | ret s =>
    simp only at hL
    split at hL
    · rename_i es hes
      obtain ⟨x, hx, hd⟩ := hL hp'
      simp only [Out.ret.injEq, SV.bool.injEq] at hx
      subst hx
      obtain ⟨v, hv, rfl⟩ := ho
      have := (eqSV_rel s _ _ hes (denB_andL ρ hd)).1 v hv
      exact ⟨v, (low_both (List.nil_prefix) c.post hlow).1 v this, rfl, H'.fr⟩
    · exact hL.elim
/-- The numbers of a shape are of their kinds. -/
def Kd.rg1 : Kd → Int × Int
  | none => (0, 1)
  | some k => (k.min, k.max)
def gamR (l : List Kd) : List (Int × Int) := l.map Kd.rg1
def rngPre (n : Nat) : List Kd → List E
  | [] => []
  | k :: ks => .le (.lit k.rg1.1) (.var n) :: .le (.var n) (.lit k.rg1.2) :: rngPre (n + 1) ks
theorem rngPre_get {ρ : Env} : ∀ {ks : List Kd} {n : Nat}, (∀ e ∈ rngPre n ks, e.denB ρ = true) → ∀ {j : Nat} {k : Kd}, ks[j]? = some k → k.rg1.1 ≤ ρ.i (n + j) ∧ ρ.i (n + j) ≤ k.rg1.2
  | [], n, _, j, k, h => by simp at h
  | k0 :: ks, n, hp, j, k, h => by
    cases j with
    | zero =>
      simp at h; subst h
      have h1 := hp _ (by rw [rngPre]; exact List.mem_cons_self ..)
      have h2 := hp _ (by rw [rngPre]; exact List.mem_cons_of_mem _ (List.mem_cons_self ..))
      simp only [E.denB, E.den] at h1 h2
      exact ⟨of_decide_eq_true h1, of_decide_eq_true h2⟩
    | succ j =>
      simp at h
      have := rngPre_get (ks := ks) (n := n + 1) (fun e he => hp e (by rw [rngPre]; exact List.mem_cons_of_mem _ (List.mem_cons_of_mem _ he))) h
      rw [show n + (j + 1) = n + 1 + j by omega]; exact this
theorem fits_pre {ρ : Env} {ks : List Kd} {pre : List E} (h : ∀ e ∈ pre, e.denB ρ = true) (hs : ∀ e ∈ rngPre 0 ks, e ∈ pre) : ρ.Fits (gamR ks) := by
  intro i lo hi hh
  simp only [gamR, List.getElem?_map, Option.map_eq_some_iff] at hh
  obtain ⟨k, hk, hk2⟩ := hh
  have := rngPre_get (fun e he => h e (hs e he)) hk
  rw [hk2, Nat.zero_add] at this
  exact this
end Go.Sx
