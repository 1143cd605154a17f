/- What is known, as the model's values. -/
import Derived.Test.YtpamdmikdnoplaaSxT
import Derived.Test.YtpamdmikdnoplaaCkBehL
namespace Go.Proofs.Ytpamdmikdnoplaa
open Go.Sx Go.RowKit Go.Ck
set_option linter.unusedVariables false
def regV (r : Rng) : List Value := [.bool (decide (r.s ≠ 0)), .int .u32 r.l, .int .u32 r.g]
def regsV (r : Int → Rng) : List Value := regV (r 0) ++ (regV (r 1) ++ (regV (r 2) ++ (regV (r 3) ++ (regV (r 4) ++ (regV (r 5) ++ (regV (r 6) ++ (regV (r 7) ++ (regV (r 8) ++ regV (r 9)))))))))
def knownV (r : Int → Rng) : Option Puts → List Value
  | none => .bool false :: regsV fun _ => zR
  | some ps => .bool true :: regsV (putsF r ps)
theorem splice_regs (r : Int → Rng) (d : Int) (h0 : 0 ≤ d) (h1 : d < 10) (x : Rng) : splice (regsV r) (3 * d.toNat) (regV x) = regsV (upd r (d, x)) := by
  have h : d = 0 ∨ d = 1 ∨ d = 2 ∨ d = 3 ∨ d = 4 ∨ d = 5 ∨ d = 6 ∨ d = 7 ∨ d = 8 ∨ d = 9 := by omega
  rcases h with rfl | rfl | rfl | rfl | rfl | rfl | rfl | rfl | rfl | rfl <;> rfl
theorem upd_out (r : Int → Rng) (d : Int) (h1 : ¬ d < 10) (x : Rng) : regsV (upd r (d, x)) = regsV r := by
  have e : ∀ j : Int, j < 10 → upd r (d, x) j = r j := fun j hj => by unfold upd; rw [if_neg (by simp only; omega)]
  unfold regsV
  rw [e 0 (by decide), e 1 (by decide), e 2 (by decide), e 3 (by decide), e 4 (by decide), e 5 (by decide), e 6 (by decide), e 7 (by decide), e 8 (by decide), e 9 (by decide)]
def toPut (ρ : Env) (p : PutE) : Int × Rng := (p.d.den ρ, ⟨(b2i p.s).den ρ, p.l.den ρ, p.g.den ρ⟩)
theorem vals_regV (ρ : Env) (p : PutE) : p.vals ρ = regV (toPut ρ p).2 := by
  unfold PutE.vals regV toPut
  simp only [den_b2i]
  cases p.s.denB ρ <;> simp
theorem putsV_regs {ρ : Env} : ∀ (ps : List PutE) (r : Int → Rng), (∀ p ∈ ps, 0 ≤ p.d.den ρ) → putsV ρ (regsV r) ps = regsV (putsF r (ps.map (toPut ρ)))
  | [], r, _ => rfl
  | p :: ps, r, h => by
    have h0 := h p (List.mem_cons_self ..)
    have e : putV ρ (regsV r) p = regsV (upd r (toPut ρ p)) := by
      unfold putV
      by_cases hd : p.d.den ρ < 10
      · rw [if_pos hd, vals_regV]; exact splice_regs r _ h0 hd _
      · rw [if_neg hd]; exact (upd_out r _ hd _).symm
    have ih := putsV_regs ps (upd r (toPut ρ p)) fun q hq => h q (List.mem_cons_of_mem _ hq)
    show putsV ρ (putV ρ (regsV r) p) ps = _
    rw [e, ih]; rfl
theorem eqPuts_sound {ρ : Env} : ∀ (ps : List PutE) (n : Nat) (qs : Puts), (∀ e ∈ eqPuts n ps, e.denB ρ = true) → qs.length = ps.length → (∀ j, j < 4 * ps.length → ρ.i (n + j) = (codeP qs).getD j 0) → qs = ps.map (toPut ρ) ∧ ∀ p ∈ ps, 0 ≤ p.d.den ρ
  | [], n, qs, _, hl, _ => ⟨by simpa using hl, by simp⟩
  | p :: ps, n, [], _, hl, _ => by simp at hl
  | p :: ps, n, (d, x) :: qs, he, hl, hc => by
    simp only [eqPuts, List.mem_cons, forall_eq_or_imp] at he
    obtain ⟨e0, e1, e2, e3, e4, he⟩ := he
    rw [E.denB_mkLe] at e0
    rw [E.denB_mkEq, beq_iff_eq] at e1 e2 e3 e4
    have e0 := of_decide_eq_true e0
    simp only [E.den] at e0 e1 e2 e3 e4
    have c0 := hc 0 (by simp)
    have c1 := hc 1 (by simp; omega)
    have c2 := hc 2 (by simp; omega)
    have c3 := hc 3 (by simp; omega)
    simp only [codeP, List.getD_cons_zero, List.getD_cons_succ, Nat.add_zero] at c0 c1 c2 c3
    obtain ⟨h1, h2⟩ := eqPuts_sound ps (n + 4) qs he (by simpa using hl) fun j hj => by
      have := hc (j + 4) (by simp; omega)
      rw [show n + (j + 4) = n + 4 + j by omega] at this
      simpa [codeP] using this
    refine ⟨?_, fun q hq => ?_⟩
    · rw [List.map_cons, ← h1]
      congr 1
      unfold toPut
      rw [e1, e2, e3, e4, c0, c1, c2, c3]
    · rcases List.mem_cons.1 hq with rfl | hq
      · exact e0
      · exact h2 q hq
theorem base_rel (ρ : Env) (β : List Nat) : RelL ρ β behBase (regsV (rng ρ)) := by
  have e : ∀ b : Bool, decide ((if b = true then (1 : Int) else 0) ≠ 0) = b := fun b => by cases b <;> rfl
  have key : regsV (rng ρ) = [.bool (ρ.b 7), .int .u32 (ρ.i 8), .int .u32 (ρ.i 9), .bool (ρ.b 10), .int .u32 (ρ.i 11), .int .u32 (ρ.i 12), .bool (ρ.b 13), .int .u32 (ρ.i 14), .int .u32 (ρ.i 15), .bool (ρ.b 16), .int .u32 (ρ.i 17), .int .u32 (ρ.i 18),
      .bool (ρ.b 19), .int .u32 (ρ.i 20), .int .u32 (ρ.i 21), .bool (ρ.b 22), .int .u32 (ρ.i 23), .int .u32 (ρ.i 24), .bool (ρ.b 25), .int .u32 (ρ.i 26), .int .u32 (ρ.i 27), .bool (ρ.b 28), .int .u32 (ρ.i 29), .int .u32 (ρ.i 30),
      .bool (ρ.b 31), .int .u32 (ρ.i 32), .int .u32 (ρ.i 33), .bool (ρ.b 34), .int .u32 (ρ.i 35), .int .u32 (ρ.i 36)] := by
    have s : ∀ (j : Int) (b : Bool) (l g : Int), rS ρ j = (if b = true then 1 else 0) → rL ρ j = l → rG ρ j = g → regV (rng ρ j) = [.bool b, .int .u32 l, .int .u32 g] := fun j b l g h1 h2 h3 => by
      unfold regV rng
      simp only [h1, h2, h3, e]
    unfold regsV
    rw [s 0 (ρ.b 7) (ρ.i 8) (ρ.i 9) rfl rfl rfl, s 1 (ρ.b 10) (ρ.i 11) (ρ.i 12) rfl rfl rfl, s 2 (ρ.b 13) (ρ.i 14) (ρ.i 15) rfl rfl rfl, s 3 (ρ.b 16) (ρ.i 17) (ρ.i 18) rfl rfl rfl, s 4 (ρ.b 19) (ρ.i 20) (ρ.i 21) rfl rfl rfl,
      s 5 (ρ.b 22) (ρ.i 23) (ρ.i 24) rfl rfl rfl, s 6 (ρ.b 25) (ρ.i 26) (ρ.i 27) rfl rfl rfl, s 7 (ρ.b 28) (ρ.i 29) (ρ.i 30) rfl rfl rfl, s 8 (ρ.b 31) (ρ.i 32) (ρ.i 33) rfl rfl rfl, s 9 (ρ.b 34) (ρ.i 35) (ρ.i 36) rfl rfl rfl]
    rfl
  rw [key]
  repeat' (first | exact rfl | refine ⟨_, _, rfl, rfl, ?_⟩)
theorem zero_rel (ρ : Env) (β : List Nat) : RelL ρ β zeroRegs (regsV fun _ => zR) := by
  show RelL ρ β zeroRegs [.bool false, .int .u32 0, .int .u32 0, .bool false, .int .u32 0, .int .u32 0, .bool false, .int .u32 0, .int .u32 0, .bool false, .int .u32 0, .int .u32 0, .bool false, .int .u32 0, .int .u32 0, .bool false, .int .u32 0, .int .u32 0, .bool false, .int .u32 0, .int .u32 0, .bool false, .int .u32 0, .int .u32 0, .bool false, .int .u32 0, .int .u32 0, .bool false, .int .u32 0, .int .u32 0]
  repeat' (first | exact rfl | refine ⟨_, _, rfl, rfl, ?_⟩)
theorem eqKnown_sound {ρ : Env} {β : List Nat} {path : List E} (hp : ρ.Path path) {n : Nat} {l : List SV} {es : List E} (h : eqKnown path behBase n l = some es) (he : ∀ e ∈ es, e.denB ρ = true) {vs : List Value} (hr : RelL ρ β l vs)
    {spec : Option Puts} (hc : ∀ j, j < 29 → ρ.i (n + j) = (codeK spec).getD j 0) : vs = knownV (rng ρ) spec := by
  unfold eqKnown at h
  split at h
  · rename_i x l
    obtain ⟨v, r, rfl, h1, h2⟩ := hr
    simp only [SV.rel] at h1
    subst h1
    have c0 := hc 0 (by omega)
    split at h
    · rename_i hd hx
      split at h
      · rename_i hz
        simp only [Option.some.injEq] at h; subst h
        have e1 := he _ (List.mem_singleton_self _)
        simp only [E.denB, E.den, beq_iff_eq, Nat.add_zero] at e1 c0
        cases spec with
        | none =>
          subst hz
          rw [decideE_sound hp hd, exactL_rel hx h2 (zero_rel ρ β)]
          rfl
        | some ps => exfalso; rw [c0] at e1; simp [codeK] at e1; omega
      · cases h
    · rename_i hd hx
      split at h
      · rename_i ps hps
        split at h
        · rename_i hlen
          simp only [Option.some.injEq] at h; subst h
          have e1 := he _ (List.mem_cons_self ..)
          simp only [E.denB, E.den, beq_iff_eq, Nat.add_zero] at e1 c0
          cases spec with
          | none => exfalso; rw [c0] at e1; simp [codeK] at e1; omega
          | some qs =>
            rw [c0] at e1
            simp only [codeK, List.getD_cons_zero] at e1
            obtain ⟨g1, g2⟩ := eqPuts_sound ps (n + 1) qs (fun e h' => he e (List.mem_cons_of_mem _ h')) (by omega) fun j hj => by
              have := hc (j + 1) (by omega)
              rw [show n + (j + 1) = n + 1 + j by omega] at this
              simpa [codeK] using this
            have := unput_rel (base_rel ρ β) hps g2
            rw [decideE_sound hp hd, exactL_rel hx h2 this, putsV_regs ps _ g2, g1]
            rfl
        · cases h
      · cases h
    · cases h
  · cases h
theorem leaf14_sound {ρ : Env} {k : Int} (hV : ∀ n : Nat, ρ.i (100 + n) = codeB (behE ρ k) n) : ∀ p s es, leaf14 p s = some es → ρ.Path p → (∀ e ∈ es, e.denB ρ = true) → ∀ β v, s.rel ρ β v →
    v = .tuple #[.agg (knownV (rng ρ) (behE ρ k).next).toArray, .agg (knownV (rng ρ) (behE ρ k).jumped).toArray, .int .i64 (behE ρ k).err] := by
  intro p s es h hp he β v hv
  unfold leaf14 at h
  split at h
  · rename_i a b e
    split at h
    · rename_i x y hx hy
      simp only [Option.some.injEq] at h; subst h
      simp only [SV.rel, SV.relS] at hv
      obtain ⟨vs, ⟨v1, r1, rfl, ⟨va, ha, rfl⟩, v2, r2, rfl, ⟨vb, hb, rfl⟩, v3, r3, rfl, rfl, rfl⟩, rfl⟩ := hv
      have e0 := he _ (List.mem_cons_self ..)
      rw [E.denB_mkEq, beq_iff_eq] at e0
      have k1 := eqKnown_sound hp hx (fun e h' => he e (List.mem_cons_of_mem _ (List.mem_append_left _ h'))) (relS_toL ha) (spec := (behE ρ k).next) fun j hj => by
        have := hV (1 + j)
        rw [show 100 + (1 + j) = 101 + j by omega] at this
        rw [this]; unfold codeB; rw [if_neg (by omega), if_pos (by omega)]; congr 1; omega
      have k2 := eqKnown_sound hp hy (fun e h' => he e (List.mem_cons_of_mem _ (List.mem_append_right _ h'))) (relS_toL hb) (spec := (behE ρ k).jumped) fun j hj => by
        have := hV (30 + j)
        rw [show 100 + (30 + j) = 130 + j by omega] at this
        rw [this]; unfold codeB; rw [if_neg (by omega), if_neg (by omega)]; congr 1; omega
      have h0 := hV 0
      simp only [Nat.add_zero, codeB, if_true] at h0
      rw [k1, k2, e0]
      simp only [E.den, h0]
    · cases h
  · cases h
end Go.Proofs.Ytpamdmikdnoplaa
