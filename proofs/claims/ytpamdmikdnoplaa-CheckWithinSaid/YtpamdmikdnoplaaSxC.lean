/- Operations that look at no memory: reckoned on values that are known in part, and that the model comes to the same. -/
import Derived.Test.YtpamdmikdnoplaaSxB
namespace Go.Sx
set_option linter.unusedVariables false
variable {P : Program} {ρ : Env} {β : List Nat}

def partS (P : Program) (t : TypeId) (cs : List SV) (off : Nat) : Option SV :=
  match P.underlying t with
  | some (.struct _) | some (.array _ _) => if (P.info? t).isSome && decide (off + P.cellsOf t ≤ cs.length) then some (.agg (.ofL ((cs.drop off).take (P.cellsOf t)))) else none
  | some _ => cs[off]?
  | none => none
theorem run_isAgg' {t : TypeId} {d : TypeDesc} (h : P.underlying t = some d) (w : World) : (isAgg t).run P w = .ok d.isRow w := by
  unfold isAgg
  rw [Sem.run_bind, run_underlying h w]
  cases d <;> simp
theorem run_partS {t : TypeId} {l : List SV} {off : Nat} {s : SV} (h : partS P t l off = some s) {vs : Array Value} (hl : RelL ρ β l vs.toList) :
    ∃ v, s.rel ρ β v ∧ ∀ w, (part t vs off).run P w = .ok v w := by
  have agg : ∀ (hi : (P.info? t).isSome = true), RelL ρ β ((l.drop off).take (P.cellsOf t)) (vs.extract off (off + P.cellsOf t)).toList := fun hi => by
    have := (hl.drop off).take (P.cellsOf t)
    simpa [Array.toList_extract, List.extract_eq_take_drop] using this
  unfold partS at h
  split at h
  · rename_i fs hu
    split at h
    · rename_i hi
      simp only [Bool.and_eq_true, decide_eq_true_eq] at hi
      simp only [Option.some.injEq] at h; subst h
      refine ⟨.agg (vs.extract off (off + P.cellsOf t)), ⟨_, relS_ofL (agg hi.1), by rw [Array.toArray_toList]⟩, fun w => ?_⟩
      simp [part, run_isAgg' hu, run_sizeOf' hi.1]
    · simp at h
  · rename_i a b hu
    split at h
    · rename_i hi
      simp only [Bool.and_eq_true, decide_eq_true_eq] at hi
      simp only [Option.some.injEq] at h; subst h
      refine ⟨.agg (vs.extract off (off + P.cellsOf t)), ⟨_, relS_ofL (agg hi.1), by rw [Array.toArray_toList]⟩, fun w => ?_⟩
      simp [part, run_isAgg' hu, run_sizeOf' hi.1]
    · simp at h
  · rename_i d hn1 hn2 hu
    obtain ⟨v, hv, hr⟩ := hl.get h
    refine ⟨v, hr, fun w => ?_⟩
    have hd : d.isRow = false := by
      cases d <;> first | rfl | (exfalso; first | exact hn1 _ rfl | exact hn2 _ _ rfl)
    simp only [Array.getElem?_toList] at hv
    simp only [part, Sem.run_bind, run_isAgg' hu, hd, Result.andThen_ok, Bool.false_eq_true, if_false, hv, Sem.run_pure]
  · simp at h

def eqFieldsS (P : Program) (eq : TypeId → SV → SV → Option E) (xs ys : List SV) : List Field → Option E
  | [] => some tt
  | f :: fs =>
    if f.name ≠ "_" then
      match partS P f.type xs f.offset, partS P f.type ys f.offset with
      | some a, some b => match eq f.type a b, eqFieldsS P eq xs ys fs with
        | some r, some rest => some (.mkAnd r rest)
        | _, _ => none
      | _, _ => none
    else eqFieldsS P eq xs ys fs
def eqItemsS (P : Program) (eq : TypeId → SV → SV → Option E) (e : TypeId) (c : Nat) (xs ys : List SV) : List Nat → Option E
  | [] => some tt
  | i :: is =>
    match partS P e xs (i * c), partS P e ys (i * c) with
    | some a, some b => match eq e a b, eqItemsS P eq e c xs ys is with
      | some r, some rest => some (.mkAnd r rest)
      | _, _ => none
    | _, _ => none

def eqS (P : Program) : Nat → TypeId → SV → SV → Option E
  | 0, _, _, _ => none
  | n + 1, t, x, y =>
    match P.underlying t, x, y with
    | some .bool, .bool a, .bool b => some (.mkBeq a b)
    | some (.int _), .int k a, .int k' b => if k = k' then some (.mkEq a b) else none
    | some (.pointer _), .pnil, .pnil => some tt
    | some (.pointer _), .pnil, .ptr _ _ => some ff
    | some (.pointer _), .ptr _ _, .pnil => some ff
    | some (.interface _), .nilif, .nilif => some tt
    | some (.interface _), .nilif, .ifc _ _ => some ff
    | some (.interface _), .ifc _ _, .nilif => some ff
    | some (.func _ _ _), .nilfn, .nilfn => some tt
    | some (.func _ _ _), .nilfn, .fn _ _ => some ff
    | some (.func _ _ _), .fn _ _, .nilfn => some ff
    | some (.map _ _), .mapnil, .mapnil => some tt
    | some (.map _ _), .mapnil, .map _ => some ff
    | some (.map _ _), .map _, .mapnil => some ff
    | some (.slice _), .snil, .snil => some tt
    | some (.slice _), .snil, .slc _ _ _ _ => some ff
    | some (.slice _), .slc _ _ _ _, .snil => some ff
    | some (.struct fs), .agg xs, .agg ys => if P.stoodInHeld t then none else eqFieldsS P (eqS P n) xs.toL ys.toL fs.toList
    | some (.array len elem), .agg xs, .agg ys => if (P.info? elem).isSome then eqItemsS P (eqS P n) elem (P.cellsOf elem) xs.toL ys.toL (List.range len) else none
    | _, _, _ => none
theorem run_eqFieldsS {n : Nat} (ih : ∀ {t x y e}, eqS P n t x y = some e → ∀ {d vx vy}, n ≤ d → x.rel ρ β vx → y.rel ρ β vy → ∀ w, (Op.equalIn d t vx vy).run P w = .ok (e.denB ρ) w)
    {d : Nat} (hd : n ≤ d) {xs ys : List SV} {vxs vys : Array Value} (hx : RelL ρ β xs vxs.toList) (hy : RelL ρ β ys vys.toList) :
    ∀ {fs : List Field} {e : E}, eqFieldsS P (eqS P n) xs ys fs = some e → ∀ w, (Op.eqFields d vxs vys fs).run P w = .ok (e.denB ρ) w
  | [], e, h, w => by simp [eqFieldsS] at h; subst h; simp [Op.eqFields, tt, E.denB]
  | f :: fs, e, h, w => by
    simp only [eqFieldsS] at h
    simp only [Op.eqFields]
    split at h
    · rename_i hn
      rw [if_pos hn]
      split at h
      · rename_i a b ha hb
        split at h
        · rename_i r rest hr hrest
          simp only [Option.some.injEq] at h; subst h
          obtain ⟨va, hva, ra⟩ := run_partS ha hx
          obtain ⟨vb, hvb, rb⟩ := run_partS hb hy
          have h1 := ih hr hd hva hvb w
          have h2 := run_eqFieldsS ih hd hx hy hrest w
          simp only [Sem.run_bind, ra, rb, Result.andThen_ok, h1, Sem.run_ite, Sem.run_pure, h2, E.denB_mkAnd]
          cases r.denB ρ <;> simp
        · simp at h
      · simp at h
    · rename_i hn
      rw [if_neg hn]
      exact run_eqFieldsS ih hd hx hy h w

theorem run_eqItemsS {n : Nat} (ih : ∀ {t x y e}, eqS P n t x y = some e → ∀ {d vx vy}, n ≤ d → x.rel ρ β vx → y.rel ρ β vy → ∀ w, (Op.equalIn d t vx vy).run P w = .ok (e.denB ρ) w)
    {d : Nat} (hd : n ≤ d) {et : TypeId} {c : Nat} {xs ys : List SV} {vxs vys : Array Value} (hx : RelL ρ β xs vxs.toList) (hy : RelL ρ β ys vys.toList) :
    ∀ {is : List Nat} {e : E}, eqItemsS P (eqS P n) et c xs ys is = some e → ∀ w, (Op.eqItems d et c vxs vys is).run P w = .ok (e.denB ρ) w
  | [], e, h, w => by simp [eqItemsS] at h; subst h; simp [Op.eqItems, tt, E.denB]
  | i :: is, e, h, w => by
    simp only [eqItemsS] at h
    simp only [Op.eqItems]
    split at h
    · rename_i a b ha hb
      split at h
      · rename_i r rest hr hrest
        simp only [Option.some.injEq] at h; subst h
        obtain ⟨va, hva, ra⟩ := run_partS ha hx
        obtain ⟨vb, hvb, rb⟩ := run_partS hb hy
        have h1 := ih hr hd hva hvb w
        have h2 := run_eqItemsS ih hd hx hy hrest w
        simp only [Sem.run_bind, ra, rb, Result.andThen_ok, h1, Sem.run_ite, Sem.run_pure, h2, E.denB_mkAnd]
        cases r.denB ρ <;> simp
      · simp at h
    · simp at h

theorem run_eqS : ∀ (n : Nat) {t : TypeId} {x y : SV} {e : E}, eqS P n t x y = some e → ∀ {d : Nat} {vx vy : Value}, n ≤ d → x.rel ρ β vx → y.rel ρ β vy →
    ∀ w, (Op.equalIn d t vx vy).run P w = .ok (e.denB ρ) w
  | 0, _, _, _, _, h => by simp [eqS] at h
  | n + 1, t, x, y, e, h => by
    rename_i d vx vy
    intro hd hx hy w
    obtain ⟨d, rfl⟩ : ∃ m, d = m + 1 := ⟨d - 1, by omega⟩
    have hd' : n ≤ d := by omega
    simp only [eqS] at h
    split at h
    case h_1 hu => simp only [SV.rel] at hx hy; subst hx hy; simp only [Option.some.injEq] at h; subst h; rw [run_equalIn_bool w d t _ _ hu]; simp
    case h_2 k0 k a k' b hu =>
      split at h
      · rename_i hk; subst hk; simp only [SV.rel] at hx hy; subst hx hy; simp only [Option.some.injEq] at h; subst h; rw [run_equalIn_int w d t _ _ _ _ hu]; simp
      · simp at h
    case h_18 fs xs ys hu =>
      split at h
      · simp at h
      · rename_i hs
        simp only [SV.rel] at hx hy
        obtain ⟨vxs, hx, rfl⟩ := hx
        obtain ⟨vys, hy, rfl⟩ := hy
        have hf : P.fieldsOf t = fs := by simp [Program.fieldsOf, hu]
        rw [run_equalIn_struct w d t _ _ (by rw [hf]; exact hu) (by simpa using hs), hf]
        exact run_eqFieldsS (fun h1 _ _ _ h2 h3 h4 w => run_eqS n h1 h2 h3 h4 w) hd' (by simpa using relS_toL hx) (by simpa using relS_toL hy) h w
    case h_19 len elem xs ys hu =>
      split at h
      · rename_i hi
        obtain ⟨i, hi⟩ := Option.isSome_iff_exists.1 hi
        simp only [SV.rel] at hx hy
        obtain ⟨vxs, hx, rfl⟩ := hx
        obtain ⟨vys, hy, rfl⟩ := hy
        rw [run_equalIn_array w d _ _ hu hi]
        exact run_eqItemsS (fun h1 _ _ _ h2 h3 h4 w => run_eqS n h1 h2 h3 h4 w) hd' (by simpa using relS_toL hx) (by simpa using relS_toL hy) h w
      · simp at h
    case h_20 => simp at h
    all_goals
      rename_i hu
      simp only [SV.rel] at hx hy
      simp only [Option.some.injEq] at h; subst h
      (first | subst hx | (obtain ⟨_, _, rfl⟩ := hx) | (obtain ⟨_, _, _, _, _, _, rfl⟩ := hx))
      (first | subst hy | (obtain ⟨_, _, rfl⟩ := hy) | (obtain ⟨_, _, _, _, _, _, rfl⟩ := hy))
      simp [Op.equalIn, run_underlying hu, tt, ff, E.denB]
end Go.Sx
