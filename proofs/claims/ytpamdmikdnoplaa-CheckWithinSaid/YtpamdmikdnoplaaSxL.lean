/- A function of numbers and truth values that returns true: from the tree to the call. -/
import Derived.Test.YtpamdmikdnoplaaSxN
import Derived.Below
import Derived.WalkKit
import Derived.ProofKit
import Derived.OpenShut
import Derived.Carry
namespace Go.Sx
open Go.RowKit
set_option linter.unusedVariables false
variable {P : Program}

def noOwn : Own := ⟨fun _ => False, fun _ => False⟩
theorem HRel.frame {ρ : Env} {w0 : World} {own : Own} {h : List SO} {β : List Nat} {w w' : World} (H : HRel ρ w0 own h β w) (F : Fr w noOwn w') : HRel ρ w0 own h β w' := by
  have hs := F.size
  have hb : ∀ k, k < w.heap.size → w'.heap[k]? = w.heap[k]? := fun k hk => F.block k hk (by simp [noOwn])
  refine ⟨H.len, H.nd, fun b hm => Nat.lt_of_lt_of_le (H.lt b hm) hs, fun i o b h1 h2 => SO.holds_of (List.prefix_refl _) (hb b (H.lt b (List.mem_of_getElem? h2))) (H.holds i o b h1 h2), H.mine, H.nw,
    ⟨F.os.trans H.fr.os, F.tape.trans H.fr.tape, F.output.trans H.fr.output, Nat.le_trans H.fr.size hs, fun k hk hn => ?_⟩⟩
  rw [hb k (Nat.lt_of_lt_of_le hk H.fr.size)]
  exact H.fr.block k hk hn

abbrev Ctr := List SV → List SO → List E → Tree (Out × List SO × List E)
/-- A contract of a function that looks at no memory of its caller: what must hold, what it returns. -/
def pureCtr (g : List SV → Option (List E × SV)) : Ctr := fun args h p => match g args with
  | some (ns, s) => .needs ns (.leaf (.ret s, h, p))
  | none => .bad "contract"
theorem pureCtr_ok {ρ : Env} {f : FuncId} {g : List SV → Option (List E × SV)} (hg : ∀ args ns s, g args = some (ns, s) → (∀ n ∈ ns, n.denB ρ = true) → ∀ β vals, RelL ρ β args vals.toList → ∀ w, Calls P f vals w (fun e w' => ∃ v, s.rel ρ β v ∧ e = .returned v ∧ Fr w noOwn w'))
    (w0 : World) (own : Own) : CtrOk P ρ w0 own f (pureCtr g) := by
  intro args h p L hs β w vals H hp hr
  unfold pureCtr at hs
  split at hs
  · rename_i ns s hgs
    obtain ⟨h1, h2⟩ := Tree.sat_needs hs
    refine (hg args ns s hgs h1 β vals hr w).mono fun e w' he => ?_
    obtain ⟨v, hv, rfl, hF⟩ := he
    exact ⟨.ret s, h, p, β, h2, List.prefix_refl _, H.frame hF, hp, v, hv, rfl⟩
  · exact hs.elim

/- Arguments. -/
/-- A cell: a truth value, a number of a kind. -/
abbrev Kd := Option IntKind
def Kd.okC : Kd → Value → Prop
  | none, v => ∃ b, v = .bool b
  | some k, v => ∃ x, v = .int k x ∧ k.min ≤ x ∧ x ≤ k.max
def Typed : List Kd → List Value → Prop
  | [], vs => vs = []
  | k :: ks, vs => ∃ v r, vs = v :: r ∧ k.okC v ∧ Typed ks r
inductive Sh
  | one (k : Kd) | row (ks : List Kd)
def Sh.ks : Sh → List Kd
  | .one k => [k]
  | .row ks => ks
def Sh.okA : Sh → Value → List Value → Prop
  | .one k, v, cs => cs = [v] ∧ k.okC v
  | .row ks, v, cs => v = .agg cs.toArray ∧ Typed ks cs
def symC (n : Nat) : Kd → SV
  | none => .bool (.bvar n)
  | some k => .int k (.var n)
def symL (n : Nat) : List Kd → List SV
  | [] => []
  | k :: ks => symC n k :: symL (n + 1) ks
def Sh.sym (n : Nat) : Sh → SV
  | .one k => symC n k
  | .row ks => .agg (.ofL (symL n ks))
def symA (n : Nat) : List Sh → List SV
  | [] => []
  | s :: l => s.sym n :: symA (n + s.ks.length) l
def Kd.rg : Kd → Int × Int
  | none => (0, 0)
  | some k => (k.min, k.max)
def gam (l : List Sh) : List (Int × Int) := l.flatMap fun s => s.ks.map Kd.rg
def intOf : Value → Int
  | .int _ n => n
  | _ => 0
def boolOf : Value → Bool
  | .bool b => b
  | _ => false
def envOf (I : Nat → List Int → Int) (l : List Value) : Env := { i := fun j => intOf (l.getD j undef), b := fun j => boolOf (l.getD j undef), v := fun _ => .bool false, I, vc := fun _ => rfl }

theorem typed_len : ∀ {ks : List Kd} {cs : List Value}, Typed ks cs → cs.length = ks.length
  | [], _, h => by simp only [Typed] at h; subst h; rfl
  | k :: ks, _, h => by obtain ⟨v, r, rfl, _, h2⟩ := h; simp [typed_len h2]
theorem symC_rel {ρ : Env} {β : List Nat} {n : Nat} {k : Kd} {v : Value} (hk : k.okC v) (hi : ρ.i n = intOf v) (hb : ρ.b n = boolOf v) : (symC n k).rel ρ β v := by
  cases k with
  | none => obtain ⟨b, rfl⟩ := hk; simp only [symC, SV.rel, E.denB, hb, boolOf]
  | some k => obtain ⟨x, rfl, _⟩ := hk; simp only [symC, SV.rel, E.den, hi, intOf]
theorem symL_rel {I : Nat → List Int → Int} {β : List Nat} : ∀ {ks : List Kd} {cs : List Value} (pre post : List Value), Typed ks cs → RelL (envOf I (pre ++ (cs ++ post))) β (symL pre.length ks) cs
  | [], _, _, _, h => h
  | k :: ks, _, pre, post, h => by
    obtain ⟨v, r, rfl, h1, h2⟩ := h
    refine ⟨v, r, rfl, symC_rel h1 (by simp [envOf]) (by simp [envOf]), ?_⟩
    have := symL_rel (I := I) (β := β) (pre ++ [v]) post h2
    simpa using this
def OkAs : List Sh → List Value → List Value → Prop
  | [], vs, all => vs = [] ∧ all = []
  | s :: l, vs, all => ∃ v r cs rest, vs = v :: r ∧ all = cs ++ rest ∧ s.okA v cs ∧ OkAs l r rest
theorem symA_rel {I : Nat → List Int → Int} {β : List Nat} : ∀ {l : List Sh} {vs all : List Value} (pre : List Value), OkAs l vs all → RelL (envOf I (pre ++ all)) β (symA pre.length l) vs
  | [], _, _, _, h => h.1
  | s :: l, _, _, pre, h => by
    obtain ⟨v, r, cs, rest, rfl, rfl, h1, h2⟩ := h
    have hl : cs.length = s.ks.length := by
      cases s with
      | one k => obtain ⟨rfl, _⟩ := h1; rfl
      | row ks => exact typed_len h1.2
    refine ⟨v, r, rfl, ?_, ?_⟩
    · cases s with
      | one k =>
        obtain ⟨rfl, h1⟩ := h1
        exact symC_rel h1 (by simp [envOf]) (by simp [envOf])
      | row ks =>
        obtain ⟨rfl, h1⟩ := h1
        exact ⟨cs, relS_ofL (symL_rel pre rest h1), rfl⟩
    · have := symA_rel (I := I) (β := β) (pre ++ cs) h2
      rw [List.length_append, hl] at this
      simpa using this
theorem typed_fits {j : Nat} {lo hi : Int} : ∀ {ks : List Kd} {cs : List Value}, Typed ks cs → (ks.map Kd.rg)[j]? = some (lo, hi) → lo ≤ intOf (cs.getD j undef) ∧ intOf (cs.getD j undef) ≤ hi
  | [], _, _, h => by simp at h
  | k :: ks, _, ht, h => by
    obtain ⟨v, r, rfl, h1, h2⟩ := ht
    cases j with
    | zero =>
      simp only [List.map_cons, List.getElem?_cons_zero, Option.some.injEq] at h
      cases k with
      | none => obtain ⟨b, rfl⟩ := h1; simp only [Kd.rg, Prod.mk.injEq] at h; simp [intOf]; omega
      | some k => obtain ⟨x, rfl, h3⟩ := h1; simp only [Kd.rg, Prod.mk.injEq] at h; simp [intOf]; omega
    | succ j => simpa using typed_fits (j := j) h2 (by simpa using h)
theorem okAs_fits : ∀ {l : List Sh} {vs all : List Value}, OkAs l vs all → ∀ (j : Nat) (lo hi : Int), (gam l)[j]? = some (lo, hi) → lo ≤ intOf (all.getD j undef) ∧ intOf (all.getD j undef) ≤ hi
  | [], _, _, _, j, lo, hi, h => by simp [gam] at h
  | s :: l, _, _, ho, j, lo, hi, h => by
    obtain ⟨v, r, cs, rest, rfl, rfl, h1, h2⟩ := ho
    have ht : Typed s.ks cs := by
      cases s with
      | one k => obtain ⟨rfl, h1⟩ := h1; exact ⟨v, [], rfl, h1, rfl⟩
      | row ks => exact h1.2
    have hl := typed_len ht
    have hg : gam (s :: l) = s.ks.map Kd.rg ++ gam l := by simp [gam]
    rw [hg] at h
    by_cases hj : j < cs.length
    · rw [List.getElem?_append_left (by simp; omega)] at h
      have := typed_fits ht h
      simpa [List.getD_eq_getElem?_getD, List.getElem?_append_left hj] using this
    · rw [List.getElem?_append_right (by simp; omega)] at h
      have := okAs_fits h2 (j - s.ks.length) lo hi (by simpa using h)
      rw [← hl] at this
      simpa [List.getD_eq_getElem?_getD, List.getElem?_append_right (Nat.le_of_not_lt hj)] using this

/-- A call that returns true, from what it is told of its arguments. -/
theorem true_of {C : FuncId → Option Ctr} {ρ : Env} (hC : ∀ f c, C f = some c → ∀ w0 own, CtrOk P ρ w0 own f c) {N n : Nat} {f : FuncId} {sas : List SV} {Γ : List (Int × Int)} {T : NT}
    (hev : finT Γ (evFn P C N n f sas [] []) = T) (hf : ρ.Fits Γ) (hT : T.Holds ρ) {vals : Array Value} (hrel : RelL ρ [] sas vals.toList) (W : World) :
    Calls P f vals W fun e W' => e = .returned (.bool true) ∧ Below W.heap.size W W' := by
  have hs := finT_sound hf (t := evFn P C N n f sas [] []) (by rw [hev]; exact hT)
  have H : HRel ρ W noOwn [] [] W := ⟨rfl, List.nodup_nil, by simp, by simp, by simp, by simp, Fr.refl _ _⟩
  refine (evFn_sound (P := P) hC n W noOwn f _ [] [] _ hs [] W vals H (by intro e he; cases he) hrel).mono fun e W' he => ?_
  obtain ⟨out, h', p', β', hL, _, H', hp', ho⟩ := he
  obtain ⟨x, hx, hd⟩ := hL hp'
  simp only at hx
  subst hx
  obtain ⟨v, hv, rfl⟩ := ho
  simp only [SV.rel] at hv
  subst hv
  exact ⟨by rw [hd], ⟨H'.fr.os, H'.fr.tape, H'.fr.output, H'.fr.size, fun k hk => H'.fr.block k hk (by simp [noOwn])⟩⟩
/-- A law that holds of whatever numbers. -/
theorem law_true {C : FuncId → Option Ctr} {I : Nat → List Int → Int} (hC : ∀ ρ : Env, ρ.I = I → ∀ f c, C f = some c → ∀ w0 own, CtrOk P ρ w0 own f c) {N n : Nat} {f : FuncId} {l : List Sh} {T : NT}
    (hev : finT (gam l) (evFn P C N n f (symA 0 l) [] []) = T) (hT : ∀ ρ : Env, ρ.I = I → ρ.Fits (gam l) → T.Holds ρ) {vals : Array Value} {all : List Value} (hv : OkAs l vals.toList all) (W : World) :
    Calls P f vals W fun e W' => e = .returned (.bool true) ∧ Below W.heap.size W W' :=
  have hf : (envOf I all).Fits (gam l) := fun j lo hi h => okAs_fits hv j lo hi h
  true_of (hC _ rfl) hev hf (hT _ rfl hf) (symA_rel (I := I) (β := []) [] hv) W
/-- The same, for a contract. -/
theorem fr_of_below {W W' : World} (h : Below W.heap.size W W') : Fr W noOwn W' := ⟨h.os, h.tape, h.output, h.size, fun k hk _ => h.block k hk⟩

/- Arguments of the form's own. -/
def kindT (P : Program) (t : TypeId) : Option Kd :=
  match P.underlying t with
  | some .bool => some none
  | some (.int k) => some (some k)
  | _ => none
def kindsT (P : Program) : List TypeId → Option (List Kd)
  | [] => some []
  | t :: l => match kindT P t, kindsT P l with
    | some k, some ks => some (k :: ks)
    | _, _ => none
def shT (P : Program) (t : TypeId) : Option Sh :=
  match P.underlying t with
  | some (.struct _) | some (.array _ _) => match P.cellTypes P.depth t with
    | some ts => if P.cellsOf t = ts.length then (kindsT P ts).map .row else none
    | none => none
  | _ => (kindT P t).map .one
theorem kindT_cell {t : TypeId} {k : Kd} (h : kindT P t = some k) {w : World} {r : Reach} {base : Nat} {v : Value} (hv : Cell.okWide P w r base t v) : k.okC v := by
  unfold kindT at h
  split at h
  · rename_i hu
    simp only [Option.some.injEq] at h; subst h
    simp only [Cell.okWide, Cell.ok, hu] at hv
    cases v <;> simp at hv
    exact ⟨_, rfl⟩
  · rename_i kk hu
    simp only [Option.some.injEq] at h; subst h
    simp only [Cell.okWide, Cell.ok, hu] at hv
    cases v <;> simp at hv
    obtain ⟨rfl, hh⟩ := hv
    refine ⟨_, rfl, ?_⟩
    simpa [IntKind.has] using hh
  · simp at h
theorem kindsT_row : ∀ {ts : List TypeId} {ks : List Kd} {cs : List Value}, kindsT P ts = some ks → cs.length = ts.length → ∀ {w : World} {r : Reach} {base : Nat}, (∀ (i : Nat) (v : Value), cs[i]? = some v → ∃ u, ts[i]? = some u ∧ Cell.okWide P w r base u v) → Typed ks cs
  | [], ks, cs, h, hl, _, _, _, _ => by
    simp only [kindsT, Option.some.injEq] at h; subst h
    simp at hl; subst hl; rfl
  | t :: ts, ks, cs, h, hl, w, r, base, hc => by
    simp only [kindsT] at h
    split at h
    · rename_i k ks' hk hks
      simp only [Option.some.injEq] at h; subst h
      cases cs with
      | nil => simp at hl
      | cons c cs =>
        refine ⟨c, cs, rfl, ?_, kindsT_row (w := w) (r := r) (base := base) hks (by simpa using hl) fun i v hi => ?_⟩
        · obtain ⟨u, hu, hcu⟩ := hc 0 c (by simp)
          simp at hu; subst hu
          exact kindT_cell hk hcu
        · obtain ⟨u, hu, hcu⟩ := hc (i + 1) v (by simpa using hi)
          exact ⟨u, by simpa using hu, hcu⟩
    · simp at h
theorem shT_okA {t : TypeId} {s : Sh} (h : shT P t = some s) {w : World} {r : Reach} {base : Nat} {v : Value} (hv : Value.okWide P w r base t v) : ∃ cs, s.okA v cs := by
  have row : ∀ {ts ks}, P.cellTypes P.depth t = some ts → P.cellsOf t = ts.length → kindsT P ts = some ks → (∃ cs, v = .agg cs ∧ cs.size = P.cellsOf t ∧ Row.okWide P w r base t cs) → ∃ cs, (Sh.row ks).okA v cs := by
    rintro ts ks ht hl hk ⟨cs, rfl, hsz, ts', ht', _, hc⟩
    rw [ht] at ht'; simp only [Option.some.injEq] at ht'; subst ht'
    refine ⟨cs.toList, by simp, kindsT_row (w := w) (r := r) (base := base) hk (by simp; omega) fun i v hi => ?_⟩
    obtain ⟨u, hu, hcu⟩ := hc i v (by simpa using hi)
    have hlt : i < ts.length := by have := (List.getElem?_eq_some_iff.1 hi).1; simp at this; omega
    rw [Nat.mod_eq_of_lt hlt] at hu
    exact ⟨u, hu, hcu⟩
  unfold shT at h
  split at h
  · rename_i fs hu
    split at h
    · rename_i ts ht
      split at h
      · rename_i hl
        simp only [Option.map_eq_some_iff] at h
        obtain ⟨ks, hk, rfl⟩ := h
        exact row ht hl hk (by simpa [Value.okWide, hu] using hv)
      · simp at h
    · simp at h
  · rename_i n e hu
    split at h
    · rename_i ts ht
      split at h
      · rename_i hl
        simp only [Option.map_eq_some_iff] at h
        obtain ⟨ks, hk, rfl⟩ := h
        exact row ht hl hk (by simpa [Value.okWide, hu] using hv)
      · simp at h
    · simp at h
  · rename_i d h1 h2
    simp only [Option.map_eq_some_iff] at h
    obtain ⟨k, hk, rfl⟩ := h
    refine ⟨[v], rfl, kindT_cell (w := w) (r := r) (base := base) hk ?_⟩
    unfold Value.okWide at hv
    split at hv
    · rename_i hu; exact absurd hu (h1 _)
    · rename_i hu; exact absurd hu (h2 _ _)
    · exact hv
end Go.Sx
