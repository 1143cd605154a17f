/- Operations that look at memory or turn it: the model comes to the same. -/
import Derived.Test.YtpamdmikdnoplaaSxF
namespace Go.Sx
set_option linter.unusedVariables false
variable {P : Program} {ρ : Env} {w0 : World} {own : Own}

theorem run_newVar' (t : TypeId) (v : Value) (w : World) : (newVar t v).run P w = .ok ⟨w.heap.size, 0, none⟩ { w with heap := w.heap.push (.cells v.cells t) } := by
  simp [newVar, newRow]

theorem run_getObj_map {w : World} {r : Nat} {es : Array MapEntry} {clock : Nat} (hb : w.heap[r]? = some (.map es clock)) : (getObj r).run P w = .ok (.map es clock) w := by
  simp [getObj, Sem.run, hb]
theorem new_cells {h : List SO} {β : List Nat} {w : World} (H : HRel ρ w0 own h β w) {l : List SV} {vs : Array Value} (hl : RelL ρ β l vs.toList) (t : TypeId) :
    HRel ρ w0 own (h ++ [.cells false l t]) (β ++ [w.heap.size]) { w with heap := w.heap.push (.cells vs t) } := by
  refine H.push ⟨vs.toList, (0, 0), hl.mono (List.prefix_append _ _), ?_, fun _ => rfl⟩
  show (w.heap.push _)[w.heap.size]? = _
  simp
theorem new_ptr {h : List SO} {β : List Nat} {w : World} (H : HRel ρ w0 own h β w) : (β ++ [w.heap.size])[h.length]? = some w.heap.size := by
  rw [← H.len, List.getElem?_append_right (Nat.le_refl _)]; simp

theorem run_loadX {t : TypeId} {l : List SV} {base stride cnt : Nat} {e : E} {n : Nat} (he : e.den ρ = n) (hn : n < cnt) {s : SV} (hs : loadX P t l base stride cnt e = some s) {β : List Nat} {vs : List Value} (hr : RelL ρ β l vs) (b : Nat) :
    base + stride * n + P.cellsOf t ≤ l.length ∧ 1 ≤ P.cellsOf t ∧ ∃ u, s.rel ρ β u ∧ ∀ w, (∀ j v, ((vs.drop (base + stride * n)).take (P.cellsOf t))[j]? = some v → w.cell? ⟨b, base + stride * n + j, none⟩ = some v) →
      (Instr.loadAt t (.pointer (some ⟨b, base + stride * n, none⟩))).run P w = .ok u w := by
  have hlen := hr.length
  simp only [Instr.loadAt, Instr.sureAddr, Sem.run_bind, Sem.run_pure, Result.andThen_ok]
  have row : ∀ d, P.underlying t = some d → d.isRow = true → (if ((P.info? t).isSome && decide (1 ≤ P.cellsOf t)) = true then (rowS e l base stride cnt (P.cellsOf t)).map fun r => SV.agg (.ofL r) else none) = some s →
      base + stride * n + P.cellsOf t ≤ l.length ∧ 1 ≤ P.cellsOf t ∧ ∃ u, s.rel ρ β u ∧ ∀ w, (∀ j v, ((vs.drop (base + stride * n)).take (P.cellsOf t))[j]? = some v → w.cell? ⟨b, base + stride * n + j, none⟩ = some v) →
        (loadVar t ⟨b, base + stride * n, none⟩).run P w = .ok u w := by
    intro d hu hd h
    split at h
    · rename_i hi
      simp only [Bool.and_eq_true, decide_eq_true_eq] at hi
      simp only [Option.map_eq_some_iff] at h
      obtain ⟨r, h1, rfl⟩ := h
      rcases rowS_rel he hn hr h1 with ⟨q, hle⟩ | ⟨h0, _⟩
      · refine ⟨hle, hi.2, _, ⟨_, relS_ofL q, rfl⟩, fun w hc => ?_⟩
        refine run_loadVar_mid w b _ t _ d hc hu hd ?_
        obtain ⟨ti, hti⟩ := Option.isSome_iff_exists.1 hi.1
        simp [hti, Program.cellsOf] at hle ⊢
        omega
      · omega
    · cases h
  unfold loadX at hs
  split at hs
  · rename_i fs hu; exact row _ hu rfl hs
  · rename_i m el hu; exact row _ hu rfl hs
  · rename_i d hn1 hn2 hu
    have hd : d.isRow = false := by
      cases d <;> first | rfl | (exfalso; first | exact hn1 _ rfl | exact hn2 _ _ rfl)
    split at hs
    · rename_i h1
      simp only [decide_eq_true_eq] at h1
      simp only [Option.bind_eq_some_iff] at hs
      obtain ⟨r, h2, h3⟩ := hs
      rcases rowS_rel he hn hr h2 with ⟨q, hle⟩ | ⟨h0, _⟩
      · obtain ⟨u, hu1, hu2⟩ := q.get h3
        refine ⟨hle, h1, u, hu2, fun w hc => ?_⟩
        have := hc 0 u hu1
        simp only [loadVar, Sem.run_bind, run_isAgg' hu, hd, Result.andThen_ok, Bool.false_eq_true, if_false]
        simp only [Nat.add_zero] at this
        rw [run_load, this]
      · omega
    · cases hs
  · cases hs

theorem run_loadS {t : TypeId} {h : List SO} {x s : SV} (hs : loadS P t h x = some s) {β : List Nat} {w : World} (H : HRel ρ w0 own h β w) {v : Value} (hv : x.rel ρ β v) :
    ∃ u, s.rel ρ β u ∧ (Instr.loadAt t v).run P w = .ok u w := by
  unfold loadS at hs
  split at hs
  · rename_i i off
    split at hs
    · rename_i ro l et hi
      split at hs
      · rename_i hle
        simp only [SV.rel] at hv
        obtain ⟨b, hb, rfl⟩ := hv
        obtain ⟨vs, fz, hr, hw, _⟩ := H.holds i _ b hi hb
        have hlen := hr.length
        -- the part of the block's own cells
        have hcell : ∀ j, w.cell? ⟨b, j, none⟩ = vs[j]? := fun j => by rw [cell_of_row w b j _ et fz hw]; simp
        simp only [Instr.loadAt, Instr.sureAddr, Sem.run_bind, Sem.run_pure, Result.andThen_ok]
        have agg : ∀ d, P.underlying t = some d → d.isRow = true → (P.info? t).isSome = true → (loadVar t ⟨b, off, none⟩).run P w = .ok (.agg ((vs.drop off).take (P.cellsOf t)).toArray) w := fun d hu hd hi' => by
          refine run_loadVar_mid w b off t _ d (fun j v hj => ?_) hu hd ?_
          · rw [hcell]
            rw [List.getElem?_take] at hj
            split at hj
            · rw [List.getElem?_drop] at hj; exact hj
            · simp at hj
          · obtain ⟨ti, hti⟩ := Option.isSome_iff_exists.1 hi'
            simp [hti, Program.cellsOf] at hle ⊢
            omega
        unfold partS at hs
        split at hs
        · rename_i fs hu
          split at hs
          · rename_i hi'
            simp only [Bool.and_eq_true, decide_eq_true_eq] at hi'
            simp only [Option.some.injEq] at hs; subst hs
            exact ⟨_, ⟨_, relS_ofL ((hr.drop off).take _), rfl⟩, agg _ hu rfl hi'.1⟩
          · simp at hs
        · rename_i n e hu
          split at hs
          · rename_i hi'
            simp only [Bool.and_eq_true, decide_eq_true_eq] at hi'
            simp only [Option.some.injEq] at hs; subst hs
            exact ⟨_, ⟨_, relS_ofL ((hr.drop off).take _), rfl⟩, agg _ hu rfl hi'.1⟩
          · simp at hs
        · rename_i d hn1 hn2 hu
          obtain ⟨u, hu1, hu2⟩ := hr.get hs
          have hd : d.isRow = false := by
            cases d <;> first | rfl | (exfalso; first | exact hn1 _ rfl | exact hn2 _ _ rfl)
          refine ⟨u, hu2, ?_⟩
          simp only [loadVar, Sem.run_bind, run_isAgg' hu, hd, Result.andThen_ok, Bool.false_eq_true, if_false]
          rw [run_load, hcell, hu1]
        · simp at hs
      · simp at hs
    · simp at hs
  · rename_i i base stride cnt e
    split at hs
    · rename_i ro l et hi
      simp only [SV.rel] at hv
      obtain ⟨b, hb, h0, h1, rfl⟩ := hv
      obtain ⟨n, hn⟩ : ∃ n : Nat, e.den ρ = n := ⟨(e.den ρ).toNat, by omega⟩
      rw [hn] at h1 ⊢
      obtain ⟨vs, fz, hr, hw, _⟩ := H.holds i _ b hi hb
      obtain ⟨_, _, u, hu1, hu2⟩ := run_loadX hn (by omega) hs hr b
      refine ⟨u, hu1, hu2 w fun j v hj => ?_⟩
      rw [cell_of_row w b _ _ et fz hw]
      rw [List.getElem?_take] at hj
      split at hj
      · rw [List.getElem?_drop] at hj; simpa using hj
      · simp at hj
    · simp at hs
  · simp at hs

theorem run_storeVar' {t : TypeId} {b off : Nat} {v : Value} {w : World} (hi : (P.info? t).isSome = true) (hs : v.cells.size = P.cellsOf t)
    (hc : ∀ j, j < v.cells.size → (w.cell? ⟨b, off + j, none⟩).isSome = true) (hf : ∀ j, j < v.cells.size → w.frozen? ⟨b, off + j, none⟩ = false) (h1 : ∀ x ∈ v.cells.toList, x.oneCell' = true) :
    (storeVar t ⟨b, off, none⟩ v).run P w = .ok () (w.setCells b off v.cells.toList) := by
  have := run_storeCells_cells (P := P) b off v.cells.toList 0 w (fun j hj => by simpa using hc j (by simpa using hj)) (fun j hj => by simpa using hf j (by simpa using hj)) h1
  simp only [Nat.add_zero] at this
  simp only [storeVar, Sem.run_bind, run_sizeOf' hi, Result.andThen_ok, hs, ne_eq, not_true_eq_false, if_false]
  exact this

theorem run_storeS {t : TypeId} {h h' : List SO} {x y : SV} (hs : storeS P t h x y = some h') {β : List Nat} {w : World} (H : HRel ρ w0 own h β w) {vx vy : Value} (hx : x.rel ρ β vx) (hy : y.rel ρ β vy) :
    ∃ w', (Instr.storeAt t vx vy).run P w = .ok () w' ∧ HRel ρ w0 own h' β w' := by
  unfold storeS at hs
  split at hs
  · rename_i i off
    split at hs
    · rename_i l et new hi hnew
      split at hs
      · rename_i hc
        simp only [Bool.and_eq_true, decide_eq_true_eq] at hc
        simp only [Option.some.injEq] at hs; subst hs
        simp only [SV.rel] at hx
        obtain ⟨b, hb, rfl⟩ := hx
        obtain ⟨vs, fz, hr, hw, hfz⟩ := H.holds i _ b hi hb
        have hfz := hfz rfl; subst hfz
        obtain ⟨hn1, hn2⟩ := scells_rel hnew hy
        have hnl : new.length = vy.cells.size := by simpa using hn1.length
        have hlen := hr.length
        obtain ⟨g1, g2, g3, g4, g5, g6, g7⟩ := setCells_block b et (0, 0) vy.cells.toList off w vs hw (by simp; omega)
        refine ⟨w.setCells b off vy.cells.toList, ?_, ?_⟩
        · simp only [Instr.storeAt, Instr.sureAddr, Sem.run_bind, Sem.run_pure, Result.andThen_ok]
          refine run_storeVar' hc.1.1 (by omega) (fun j hj => ?_) (fun j hj => ?_) hn2
          · rw [cell_of_row w b (off + j) _ et _ hw]
            simp; omega
          · exact frozen_of_row w b (off + j) _ et hw
        · exact H.turn hi hb rfl g4 g5 g6 g3 g2 ⟨_, (0, 0), hr.splice off hn1, g1, fun _ => rfl⟩
      · simp at hs
    · simp at hs
  · rename_i i base stride cnt e
    split at hs
    · rename_i l et new hi hnew
      split at hs
      · rename_i hc
        simp only [Bool.and_eq_true, decide_eq_true_eq] at hc
        simp only [Option.map_eq_some_iff] at hs
        obtain ⟨l', hl', rfl⟩ := hs
        simp only [SV.rel] at hx
        obtain ⟨b, hb, h0, h1, rfl⟩ := hx
        obtain ⟨n, hn⟩ : ∃ n : Nat, e.den ρ = n := ⟨(e.den ρ).toNat, by omega⟩
        rw [hn] at h1 ⊢
        obtain ⟨vs, fz, hr, hw, hfz⟩ := H.holds i _ b hi hb
        have hfz := hfz rfl; subst hfz
        obtain ⟨hn1, hn2⟩ := scells_rel hnew hy
        have hnl : new.length = vy.cells.size := by simpa using hn1.length
        have hlen := hr.length
        obtain ⟨p1, p2⟩ := putRow_rel hn hn1 hr hl'
        rw [if_pos (by omega)] at p1
        have p2 := p2 (by omega)
        simp only [Array.length_toList] at p2
        obtain ⟨g1, g2, g3, g4, g5, g6, g7⟩ := setCells_block b et (0, 0) vy.cells.toList (base + stride * n) w vs hw (by simpa using p2)
        simp only [Int.toNat_natCast]
        refine ⟨w.setCells b (base + stride * n) vy.cells.toList, ?_, ?_⟩
        · simp only [Instr.storeAt, Instr.sureAddr, Sem.run_bind, Sem.run_pure, Result.andThen_ok]
          refine run_storeVar' hc.1 (by omega) (fun j hj => ?_) (fun j hj => ?_) hn2
          · rw [cell_of_row w b (base + stride * n + j) _ et _ hw]
            simp; omega
          · exact frozen_of_row w b (base + stride * n + j) _ et hw
        · exact H.turn hi hb rfl g4 g5 g6 g3 g2 ⟨_, (0, 0), p1, g1, fun _ => rfl⟩
      · simp at hs
    · simp at hs
  · simp at hs

theorem run_checkKey_int {kt : TypeId} {k : IntKind} (hk : P.underlying kt = some (.int k)) (b : Bool) (n : Nat) (v : Value) (w : World) : (Instr.checkKey b (n + 1) kt v).run P w = .ok () w := by
  simp [Instr.checkKey, run_underlying hk]
theorem findS_rel {β : List Nat} {k : IntKind} {x : IntKind} {n : Int} {ke : E} {vk : Value} (hk : (SV.int x ke).rel ρ β vk) : ∀ {l : List (SV × SV)} {es : List MapEntry} {r : Option SV} (i : Nat), RelM ρ β l es → findS (.int x ke) l = some r →
    match r with
    | none => Instr.findNow (.int k) vk es i = some none
    | some s => ∃ j v, Instr.findNow (.int k) vk es i = some (some (j, v)) ∧ s.rel ρ β v
  | [], es, r, i, hm, hf => by
    simp [RelM] at hm; subst hm
    simp only [findS, Option.some.injEq] at hf; subst hf
    rfl
  | (k', v') :: l, es, r, i, hm, hf => by
    obtain ⟨e, rr, rfl, h1, h2, h3⟩ := hm
    unfold findS at hf
    split at hf
    · rename_i x' a y b he
      simp only [SV.int.injEq] at he
      obtain ⟨rfl, rfl⟩ := he
      simp only [SV.rel, E.den] at hk h1
      split at hf
      · rename_i hxy; subst hxy
        split at hf
        · rename_i hab; subst hab
          simp only [Option.some.injEq] at hf; subst hf
          refine ⟨i, e.val, ?_, h2⟩
          simp [Instr.findNow, Instr.sameNow, hk, h1]
        · rename_i hab
          have ih := findS_rel (k := k) (n := n) (vk := vk) (ke := .lit a) (x := x) (by simpa [SV.rel, E.den] using hk) (i + 1) h3 hf
          have : Instr.findNow (.int k) vk (e :: rr) i = Instr.findNow (.int k) vk rr (i + 1) := by
            have hab' : (a == b) = false := by simpa using hab
            simp [Instr.findNow, Instr.sameNow, hk, h1, hab']
          rw [this]
          exact ih
      · simp at hf
    · simp at hf

theorem run_buildSliceS {t : TypeId} {len : Nat} {parts : List (Nat × SV)} {h h' : List SO} {s : SV} (hs : buildSliceS P t len parts h = some (s, h')) {β : List Nat} {w : World} (H : HRel ρ w0 own h β w)
    {vparts : Array (Nat × Value)} (hp : RelP ρ β parts vparts.toList) :
    ∃ v w' β', (Instr.buildSlice t len vparts).run P w = .ok v w' ∧ β <+: β' ∧ s.rel ρ β' v ∧ HRel ρ w0 own h' β' w' := by
  unfold buildSliceS at hs
  split at hs
  · rename_i elem hu
    split at hs
    · rename_i z hz
      split at hs
      · rename_i zc hzc
        simp only at hs
        split at hs
        · rename_i hc
          simp only [Bool.and_eq_true, decide_eq_true_eq] at hc
          obtain ⟨⟨⟨hc1, hc2⟩, hc3⟩, hc4⟩ := hc
          obtain ⟨zv, hzr, hzrun⟩ := run_zeroS hz ρ β
          obtain ⟨hcr, _⟩ := scells_rel hzc hzr
          cases hf : fillS (fun i => some (i * P.cellsOf elem, P.cellsOf elem)) ((List.range (len * P.cellsOf elem)).map fun j => zc.getD (j % zc.length) .unk) parts with
          | none => rw [hf] at hs; simp at hs
          | some out =>
            simp only [hf, Option.map_some, Option.some.injEq, Prod.mk.injEq] at hs
            obtain ⟨rfl, rfl⟩ := hs
            have hzl : zc.length = zv.cells.size := by simpa using hcr.length
            have hrow : RelL ρ β ((List.range (len * P.cellsOf elem)).map fun j => zc.getD (j % zc.length) .unk) ((Array.range (len * P.cellsOf elem)).map (zv.cells[· % zv.cells.size]!)).toList := by
              rw [Array.toList_map, Array.toList_range]
              generalize List.range (len * P.cellsOf elem) = is
              induction is with
              | nil => rfl
              | cons j is ih =>
                refine ⟨_, _, rfl, ?_, ih⟩
                have hj : j % zc.length < zc.length := Nat.mod_lt _ hc4
                have : zc[j % zc.length]? = some (zc.getD (j % zc.length) .unk) := by
                  rw [List.getD_eq_getElem?_getD, List.getElem?_eq_getElem hj]; rfl
                obtain ⟨u, hu1, hu2⟩ := hcr.get this
                rw [Array.getElem?_toList] at hu1
                show (zc.getD (j % zc.length) .unk).rel ρ β (zv.cells[j % zv.cells.size]!)
                rw [← hzl, getElem!_def, hu1]
                exact hu2
            obtain ⟨vo, hvo, hro⟩ := fillS_rel hp hrow hf
            refine ⟨.slice (some ⟨w.heap.size, 0, none⟩) len len, { w with heap := w.heap.push (.cells vo elem) }, β ++ [w.heap.size], ?_, List.prefix_append _ _, ?_, new_cells H hro elem⟩
            · have hne : ¬ (len * P.cellsOf elem = 0) := by omega
              have hle : ¬ (2 ^ 24 < len * P.cellsOf elem) := by omega
              simp only [Instr.buildSlice, Sem.run_bind, run_underlying hu, Result.andThen_ok, run_sizeOf' hc1, gt_iff_lt, if_neg hle, if_neg hne, hzrun, Sem.run_pure, hvo]
              simp [newRow]
            · exact ⟨_, new_ptr H, len, len, rfl, rfl, rfl⟩
        · simp at hs
      · simp at hs
    · simp at hs
  · simp at hs

theorem zero_row {zc : List SV} {β : List Nat} {zv : Value} (hcr : RelL ρ β zc zv.cells.toList) (h0 : 0 < zc.length) (n : Nat) :
    RelL ρ β ((List.range n).map fun j => zc.getD (j % zc.length) .unk) ((Array.range n).map (zv.cells[· % zv.cells.size]!)).toList := by
  have hzl : zc.length = zv.cells.size := by simpa using hcr.length
  rw [Array.toList_map, Array.toList_range]
  generalize List.range n = is
  induction is with
  | nil => rfl
  | cons j is ih =>
    refine ⟨_, _, rfl, ?_, ih⟩
    have hj : j % zc.length < zc.length := Nat.mod_lt _ h0
    have : zc[j % zc.length]? = some (zc.getD (j % zc.length) .unk) := by
      rw [List.getD_eq_getElem?_getD, List.getElem?_eq_getElem hj]; rfl
    obtain ⟨u, hu1, hu2⟩ := hcr.get this
    rw [Array.getElem?_toList] at hu1
    show (zc.getD (j % zc.length) .unk).rel ρ β (zv.cells[j % zv.cells.size]!)
    rw [← hzl, getElem!_def, hu1]
    exact hu2
theorem run_makeSliceS {t : TypeId} {len cap : SV} {h h' : List SO} {s : SV} (hs : makeSliceS P t len cap h = some (s, h')) {β : List Nat} {w : World} (H : HRel ρ w0 own h β w)
    {vl vc : Value} (hl : len.rel ρ β vl) (hc : cap.rel ρ β vc) :
    ∃ v w' β', (Instr.makeSlice t vl vc).run P w = .ok v w' ∧ β <+: β' ∧ s.rel ρ β' v ∧ HRel ρ w0 own h' β' w' := by
  unfold makeSliceS at hs
  split at hs
  · rename_i elem k n k' m hu
    split at hs
    · rename_i i z hi hz
      split at hs
      · rename_i zc hzc
        split at hs
        · rename_i hcond
          obtain ⟨rfl, h0, h1, hw, hb, hz0⟩ := hcond
          simp only [Option.some.injEq, Prod.mk.injEq] at hs
          obtain ⟨rfl, rfl⟩ := hs
          simp only [SV.rel, E.den] at hl hc
          subst hl hc
          obtain ⟨zv, hzr, hzrun⟩ := run_zeroS hz ρ β
          obtain ⟨hcr, _⟩ := scells_rel hzc hzr
          have hrow := zero_row hcr hz0 (n.toNat * P.cellsOf elem)
          refine ⟨.slice (some ⟨w.heap.size, 0, none⟩) n.toNat n.toNat, _, β ++ [w.heap.size], ?_, List.prefix_append _ _, ⟨_, new_ptr H, n.toNat, n.toNat, by simp [E.den]; omega, by simp [E.den]; omega, rfl⟩, new_cells H hrow elem⟩
          have hle : ¬ (281474976710656 < (i.bytes : Int) * n) := by
            have h2 : ((i.bytes * n.toNat : Nat) : Int) ≤ ((2 ^ 40 : Nat) : Int) := Int.ofNat_le.2 hb
            have e : ((i.bytes * n.toNat : Nat) : Int) = (i.bytes : Int) * n := by rw [Int.natCast_mul]; congr 1; omega
            rw [e] at h2
            have h3 : (i.bytes : Int) * n ≤ 1099511627776 := by simpa using h2
            generalize (i.bytes : Int) * n = q at *
            omega
          have hlt : ¬ (n < 0) := by omega
          have hinfo : (typeInfo elem).run P w = .ok i w := by simp [typeInfo, hi]
          have hsz : (sizeOf elem).run P w = .ok (P.cellsOf elem) w := run_sizeOf' (by rw [hi]; rfl) w
          simp only [Instr.makeSlice, Sem.run_bind, run_underlying hu, Result.andThen_ok, asInt, asIntOf, Sem.run_pure, hinfo, hw]
          have ht : (decide (n < 0) || decide ((i.bytes : Int) * n > 2 ^ 48)) = false := by
            have h4 : ¬ ((i.bytes : Int) * n > 2 ^ 48) := by simpa using hle
            simp only [hlt, h4, decide_false, Bool.or_false]
          have hc : (decide (n < 0) || decide ((i.bytes : Int) * n > 2 ^ 48) || decide (n < 0) || decide (n > n)) = false := by
            have h5 : ¬ (n > n) := Int.lt_irrefl n
            rw [ht]; simp only [hlt, h5, decide_false, Bool.or_self]
          rw [if_neg (by rw [hc]; exact Bool.false_ne_true)]
          simp only [Sem.run_bind, run_askRoom, Result.andThen_ok, hsz]
          by_cases hn : n.toNat * P.cellsOf elem = 0
          · rw [if_pos hn]
            have e0 : ∀ (f : Nat → Value), (Array.range 0).map f = #[] := fun f => by simp
            simp only [newRow, hn, Sem.run_bind, Sem.run_pure, run_newObj, Result.andThen_ok, e0]
          · rw [if_neg hn]
            simp only [Sem.run_bind, hzrun, Sem.run_pure, Result.andThen_ok]
            simp [newRow]
        · simp at hs
      · simp at hs
    · simp at hs
  · simp at hs
theorem run_callFunc {n : FuncId} {fn : Func} (hf : P.funcs[n]? = some fn) (h1 : (fn.name == "runtime.NumGoroutine") = false) (h2 : fn.body.isNone = false) (args : Array Value) (w : World) :
    (callFunc n args).run P w = .ok (.enter n args) w := by
  simp only [callFunc, Sem.run_bind, run_program, Result.andThen_ok, hf, h1, h2]
  simp

theorem evMem_sound {st : St} {β : List Nat} {a : Act} {w : World} (R : Rel ρ w0 own st β a w) (o : Oper) : (evMem P st o.op).holds ρ w0 own β w ((execOp a.eval o).run P w) := by
  obtain ⟨dst, op, type, pos, after, guard⟩ := o
  have hg : ∀ x, (stripC st.path (st.ev x)).rel ρ β (a.eval x) := fun x => stripC_rel R.pa (R.ev x)
  show (evMem P st op).holds ρ w0 own β w _
  unfold evMem
  simp only
  split
  case h_1 elem =>
    split
    · rename_i z hz
      split
      · rename_i l hl
        obtain ⟨zv, hzr, hzrun⟩ := run_zeroS hz ρ β
        obtain ⟨hcr, _⟩ := scells_rel hl hzr
        refine ⟨_, _, β ++ [w.heap.size], ?_, List.prefix_append _ _, ⟨_, new_ptr R.hp, rfl⟩, new_cells R.hp hcr elem⟩
        simp [execOp, Instr.alloc, hzrun, run_newVar']
      · trivial
    · trivial
  case h_2 elem x =>
    split
    · rename_i l hl
      obtain ⟨hcr, _⟩ := scells_rel hl (hg x)
      refine ⟨_, _, β ++ [w.heap.size], ?_, List.prefix_append _ _, ⟨_, new_ptr R.hp, rfl⟩, new_cells R.hp hcr elem⟩
      simp [execOp, Instr.box, run_newVar']
    · trivial
  case h_3 t len parts =>
    split
    · rename_i s h hb
      obtain ⟨v, w', β', h1, h2, h3, h4⟩ := run_buildSliceS hb R.hp (vparts := parts.map fun (i, x) => (i, a.eval x)) (by simpa using RelP.map hg parts.toList)
      exact ⟨v, w', β', by simp [execOp, h1], h2, h3, h4⟩
    · trivial
  case h_4 t l c =>
    split
    · rename_i s h hb
      obtain ⟨v, w', β', h1, h2, h3, h4⟩ := run_makeSliceS hb R.hp (hg l) (hg c)
      exact ⟨v, w', β', by simp [execOp, h1], h2, h3, h4⟩
    · trivial
  case h_5 t x =>
    split
    · rename_i s hs
      obtain ⟨u, h1, h2⟩ := run_loadS hs R.hp (hg x)
      exact ⟨u, w, β, by simp [execOp, h2], List.prefix_refl _, h1, R.hp⟩
    · trivial
  case h_6 t x y =>
    split
    · rename_i h hs
      obtain ⟨w', h1, h2⟩ := run_storeS hs R.hp (hg x) (hg y)
      exact ⟨w', β, by simp [execOp, h1], List.prefix_refl _, h2⟩
    · trivial
  case h_7 t =>
    refine ⟨.map (some w.heap.size), { w with heap := w.heap.push (.map #[] 0) }, β ++ [w.heap.size], ?_, List.prefix_append _ _, ⟨_, new_ptr R.hp, rfl⟩, R.hp.push ⟨[], 0, rfl, by simp⟩⟩
    simp [execOp, Instr.makeMap]
  case h_8 t r =>
    split
    · rename_i kt et k e hu hr
      have := hg r
      rw [hr] at this
      simp only [SV.rel] at this
      refine ⟨.map (some w.heap.size), { w with heap := w.heap.push (.map #[] 0) }, β ++ [w.heap.size], ?_, List.prefix_append _ _, ⟨_, new_ptr R.hp, rfl⟩, R.hp.push ⟨[], 0, rfl, by simp⟩⟩
      simp [execOp, Instr.makeMap, run_underlying hu, this, asInt, asIntOf]
    · trivial
  case h_9 t m k v =>
    split
    · rename_i kt et i hu hm
      split
      · rename_i kk l hk hi
        split
        · rename_i hf
          split
          · rename_i x ke hke
            have hgm := hg m
            rw [hm] at hgm
            simp only [SV.rel] at hgm
            obtain ⟨b, hb, hgm⟩ := hgm
            obtain ⟨es, clock, hes, hw⟩ := R.hp.holds i _ b hi hb
            rw [hke] at hf
            have hgk := hg k
            rw [hke] at hgk
            have hfn := findS_rel (k := kk) (n := 0) hgk 0 hes hf
            simp only at hfn
            refine ⟨{ w with heap := w.heap.setIfInBounds b (.map (es.toArray.push { key := a.eval k, val := a.eval v, born := clock }) (clock + 1)) }, β, ?_, List.prefix_refl _, ?_⟩
            · simp only [execOp, Instr.mapUpdate, Sem.run_bind, run_underlying hu, Result.andThen_ok, hgm, run_getObj_map hw, run_checkKey_int hk, Instr.findKey, run_underlying hk, hfn, Sem.run_pure]
              simp [setObj, Sem.run, hw]
            · have hlt : b < w.heap.size := R.hp.lt b (List.mem_of_getElem? hb)
              refine R.hp.turn hi hb rfl rfl rfl rfl (by simp) (fun k hk => ?_) ⟨es ++ [{ key := a.eval k, val := a.eval v, born := clock }], clock + 1, hes.append (hg k) (hg v), ?_⟩
              · show (w.heap.setIfInBounds b _)[k]? = _
                rw [Array.getElem?_setIfInBounds_ne (by omega)]
              · show (w.heap.setIfInBounds b _)[b]? = _
                rw [Array.getElem?_setIfInBounds_self_of_lt hlt]; simp
          · trivial
        · trivial
      · trivial
    · trivial
  case h_10 t m k ok =>
    split
    · rename_i kt et i hu hm
      split
      · rename_i kk l hk hi
        split
        · rename_i x ke hke
          have hgm := hg m
          rw [hm] at hgm
          simp only [SV.rel] at hgm
          obtain ⟨b, hb, hgm⟩ := hgm
          obtain ⟨es, clock, hes, hw⟩ := R.hp.holds i _ b hi hb
          have hgk := litP_rel R.pa (hg k)
          rw [hke] at hgk
          split
          · rename_i v hf
            rw [hke] at hf
            have hfn := findS_rel (k := kk) (n := 0) hgk 0 hes hf
            simp only at hfn
            obtain ⟨j, u, hfn, hur⟩ := hfn
            cases ok
            · refine ⟨u, w, β, ?_, List.prefix_refl _, hur, R.hp⟩
              simp [execOp, Instr.lookup, run_underlying hu, hgm, run_getObj_map hw, run_checkKey_int hk, Instr.findKey, run_underlying hk, hfn]
            · refine ⟨.tuple #[u, .bool true], w, β, ?_, List.prefix_refl _, ⟨_, ⟨_, _, rfl, hur, _, _, rfl, by simp [SV.rel, tt, E.denB], rfl⟩, rfl⟩, R.hp⟩
              simp [execOp, Instr.lookup, run_underlying hu, hgm, run_getObj_map hw, run_checkKey_int hk, Instr.findKey, run_underlying hk, hfn]
          · rename_i hf
            split
            · rename_i z hz
              rw [hke] at hf
              have hfn := findS_rel (k := kk) (n := 0) hgk 0 hes hf
              simp only at hfn
              obtain ⟨zv, hzr, hzrun⟩ := run_zeroS hz ρ β
              cases ok
              · refine ⟨zv, w, β, ?_, List.prefix_refl _, hzr, R.hp⟩
                simp [execOp, Instr.lookup, run_underlying hu, hgm, run_getObj_map hw, run_checkKey_int hk, Instr.findKey, run_underlying hk, hfn, hzrun]
              · refine ⟨.tuple #[zv, .bool false], w, β, ?_, List.prefix_refl _, ⟨_, ⟨_, _, rfl, hzr, _, _, rfl, by simp [SV.rel, ff, E.denB], rfl⟩, rfl⟩, R.hp⟩
                simp [execOp, Instr.lookup, run_underlying hu, hgm, run_getObj_map hw, run_checkKey_int hk, Instr.findKey, run_underlying hk, hfn, hzrun]
            · trivial
          · trivial
        · trivial
      · trivial
    · trivial
  case h_11 f args argTypes =>
    split
    · rename_i n caps hf
      split
      · rename_i fn hfn
        split
        · trivial
        · rename_i hc
          simp only [Bool.or_eq_true, not_or, Bool.not_eq_true] at hc
          have hgf := hg f
          rw [hf] at hgf
          simp only [SV.rel] at hgf
          obtain ⟨vs, hvs, hgf⟩ := hgf
          refine ⟨args.map a.eval ++ vs.toArray, ?_, ?_⟩
          · simp only [execOp, resolve, hgf, Deferred.ofValue, Sem.run_bind, Sem.run_pure, Result.andThen_ok, invoke, run_callFunc hfn hc.1 hc.2]
            simp
          · simpa using (RelL.map hg args.toList).append (relS_toL hvs)
      · trivial
    · trivial
  case h_12 f args argTypes =>
    split
    · rename_i n caps hf
      have hgf := hg f
      rw [hf] at hgf
      simp only [SV.rel] at hgf
      obtain ⟨vs, hvs, hgf⟩ := hgf
      refine ⟨args.map a.eval, vs.toArray, ?_, by simpa using RelL.map hg args.toList, by simpa using relS_toL hvs⟩
      simp [execOp, resolve, hgf, Deferred.ofValue]
    · trivial
  case h_13 x =>
    split
    · rename_i t v hx
      have := hg x
      rw [hx] at this
      have h2 := this
      simp only [SV.rel] at this
      obtain ⟨u, hu, hv⟩ := this
      refine ⟨_, ?_, h2⟩
      simp [execOp, hv, Instr.panic]
    · trivial
  case h_14 => trivial
end Go.Sx
