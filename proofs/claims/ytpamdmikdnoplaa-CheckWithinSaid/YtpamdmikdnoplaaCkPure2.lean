/- Contracts of small functions: ranges that may be, ones, powers. -/
import Derived.Test.YtpamdmikdnoplaaCkPure
namespace Go.Proofs.Ytpamdmikdnoplaa
open Go.Sx Go.RowKit Go.Ck
set_option linter.unusedVariables false
set_option maxRecDepth 100000
theorem clamp_bit (p : Prop) : clampF 301 (bit p) = bit p := by
  have := bit_01 p
  unfold clampF
  rw [if_neg (by decide), if_neg (by decide), if_pos (by decide)]
  split <;> omega
theorem den_right (l : List Int) : ((clampF 301 (CI 301 l) != 0) = true) ↔ rightL l := by
  show ((clampF 301 (bit (rightL l)) != 0) = true) ↔ rightL l
  rw [clamp_bit, bne_iff_ne, bit_ne]
theorem cond29 (b : Bool) (l g : Int) : ((g < l → (1 : Int) ≠ 0) ∧ (¬g < l → (¬b = true → ¬((¬b = true → (l = 0 → g = 0) ∧ (¬l = 0 → (0 : Int) ≠ 0)) ∧ (¬¬b = true → (0 : Int) ≠ 0))) ∧ (¬¬b = true → (0 : Int) ≠ 0))) ↔ ¬ RightR (if b = true then 1 else 0) l g := by
  cases b <;> simp <;> omega
theorem cond16 (b : Bool) (l g : Int) : ((g < l → (1 : Int) ≠ 0) ∧ (¬g < l → (¬b = true → ((¬l = 0 → (1 : Int) ≠ 0) ∧ (¬¬l = 0 → ¬ g = 0))) ∧ (¬¬b = true → (0 : Int) ≠ 0))) ↔ ¬ RightR (if b = true then 1 else 0) l g := by
  cases b <;> simp <;> omega

theorem fits1 {ρ : Env} {lo hi : Int} (h : ∀ e ∈ ([.le (.lit lo) (.var 0), .le (.var 0) (.lit hi)] : List E), e.denB ρ = true) : ρ.Fits [(lo, hi)] := by
  intro i a b hh
  cases i with
  | zero =>
    simp only [List.getElem?_cons_zero, Option.some.injEq, Prod.mk.injEq] at hh
    obtain ⟨rfl, rfl⟩ := hh
    have h1 := h _ (List.mem_cons_self ..)
    have h2 := h _ (List.mem_cons_of_mem _ (List.mem_cons_self ..))
    simp only [E.denB, E.den] at h1 h2
    exact ⟨of_decide_eq_true h1, of_decide_eq_true h2⟩
  | succ i => simp at hh

def right29T : NT :=
 (.ite (.ite (.lt (.var 3) (.var 2)) (.lit 1) (.ite (.not (.bvar 1)) (.not (.ite (.not (.bvar 1)) (.ite (.eq (.var 2) (.lit 0)) (.eq (.var 3) (.lit 0)) (.lit 0)) (.lit 0))) (.lit 0)))
 (.goal (.iff (.lit 0) (.app (.app 301 (.cons (.bvar 1) (.cons (.var 2) (.cons (.var 3) (.cons (.bvar 4) (.cons (.var 5) (.cons (.var 6) (.cons (.bvar 7) (.cons (.var 8) (.cons (.var 9) (.cons (.bvar 10) (.cons (.var 11) (.cons (.var 12) (.cons (.bvar 13) (.cons (.var 14) (.cons (.var 15) (.cons (.bvar 16) (.cons (.var 17) (.cons (.var 18) (.cons (.bvar 19) (.cons (.var 20) (.cons (.var 21) (.cons (.bvar 22) (.cons (.var 23) (.cons (.var 24) (.cons (.bvar 25) (.cons (.var 26) (.cons (.var 27) (.cons (.bvar 28) (.cons (.var 29) (.cons (.var 30) .nil))))))))))))))))))))))))))))))))))
 (.ite (.ite (.lt (.var 6) (.var 5)) (.lit 1) (.ite (.not (.bvar 4)) (.not (.ite (.not (.bvar 4)) (.ite (.eq (.var 5) (.lit 0)) (.eq (.var 6) (.lit 0)) (.lit 0)) (.lit 0))) (.lit 0)))
 (.goal (.iff (.lit 0) (.app (.app 301 (.cons (.bvar 1) (.cons (.var 2) (.cons (.var 3) (.cons (.bvar 4) (.cons (.var 5) (.cons (.var 6) (.cons (.bvar 7) (.cons (.var 8) (.cons (.var 9) (.cons (.bvar 10) (.cons (.var 11) (.cons (.var 12) (.cons (.bvar 13) (.cons (.var 14) (.cons (.var 15) (.cons (.bvar 16) (.cons (.var 17) (.cons (.var 18) (.cons (.bvar 19) (.cons (.var 20) (.cons (.var 21) (.cons (.bvar 22) (.cons (.var 23) (.cons (.var 24) (.cons (.bvar 25) (.cons (.var 26) (.cons (.var 27) (.cons (.bvar 28) (.cons (.var 29) (.cons (.var 30) .nil))))))))))))))))))))))))))))))))))
 (.ite (.ite (.lt (.var 9) (.var 8)) (.lit 1) (.ite (.not (.bvar 7)) (.not (.ite (.not (.bvar 7)) (.ite (.eq (.var 8) (.lit 0)) (.eq (.var 9) (.lit 0)) (.lit 0)) (.lit 0))) (.lit 0)))
 (.goal (.iff (.lit 0) (.app (.app 301 (.cons (.bvar 1) (.cons (.var 2) (.cons (.var 3) (.cons (.bvar 4) (.cons (.var 5) (.cons (.var 6) (.cons (.bvar 7) (.cons (.var 8) (.cons (.var 9) (.cons (.bvar 10) (.cons (.var 11) (.cons (.var 12) (.cons (.bvar 13) (.cons (.var 14) (.cons (.var 15) (.cons (.bvar 16) (.cons (.var 17) (.cons (.var 18) (.cons (.bvar 19) (.cons (.var 20) (.cons (.var 21) (.cons (.bvar 22) (.cons (.var 23) (.cons (.var 24) (.cons (.bvar 25) (.cons (.var 26) (.cons (.var 27) (.cons (.bvar 28) (.cons (.var 29) (.cons (.var 30) .nil))))))))))))))))))))))))))))))))))
 (.ite (.ite (.lt (.var 12) (.var 11)) (.lit 1) (.ite (.not (.bvar 10)) (.not (.ite (.not (.bvar 10)) (.ite (.eq (.var 11) (.lit 0)) (.eq (.var 12) (.lit 0)) (.lit 0)) (.lit 0))) (.lit 0)))
 (.goal (.iff (.lit 0) (.app (.app 301 (.cons (.bvar 1) (.cons (.var 2) (.cons (.var 3) (.cons (.bvar 4) (.cons (.var 5) (.cons (.var 6) (.cons (.bvar 7) (.cons (.var 8) (.cons (.var 9) (.cons (.bvar 10) (.cons (.var 11) (.cons (.var 12) (.cons (.bvar 13) (.cons (.var 14) (.cons (.var 15) (.cons (.bvar 16) (.cons (.var 17) (.cons (.var 18) (.cons (.bvar 19) (.cons (.var 20) (.cons (.var 21) (.cons (.bvar 22) (.cons (.var 23) (.cons (.var 24) (.cons (.bvar 25) (.cons (.var 26) (.cons (.var 27) (.cons (.bvar 28) (.cons (.var 29) (.cons (.var 30) .nil))))))))))))))))))))))))))))))))))
 (.ite (.ite (.lt (.var 15) (.var 14)) (.lit 1) (.ite (.not (.bvar 13)) (.not (.ite (.not (.bvar 13)) (.ite (.eq (.var 14) (.lit 0)) (.eq (.var 15) (.lit 0)) (.lit 0)) (.lit 0))) (.lit 0)))
 (.goal (.iff (.lit 0) (.app (.app 301 (.cons (.bvar 1) (.cons (.var 2) (.cons (.var 3) (.cons (.bvar 4) (.cons (.var 5) (.cons (.var 6) (.cons (.bvar 7) (.cons (.var 8) (.cons (.var 9) (.cons (.bvar 10) (.cons (.var 11) (.cons (.var 12) (.cons (.bvar 13) (.cons (.var 14) (.cons (.var 15) (.cons (.bvar 16) (.cons (.var 17) (.cons (.var 18) (.cons (.bvar 19) (.cons (.var 20) (.cons (.var 21) (.cons (.bvar 22) (.cons (.var 23) (.cons (.var 24) (.cons (.bvar 25) (.cons (.var 26) (.cons (.var 27) (.cons (.bvar 28) (.cons (.var 29) (.cons (.var 30) .nil))))))))))))))))))))))))))))))))))
 (.ite (.ite (.lt (.var 18) (.var 17)) (.lit 1) (.ite (.not (.bvar 16)) (.not (.ite (.not (.bvar 16)) (.ite (.eq (.var 17) (.lit 0)) (.eq (.var 18) (.lit 0)) (.lit 0)) (.lit 0))) (.lit 0)))
 (.goal (.iff (.lit 0) (.app (.app 301 (.cons (.bvar 1) (.cons (.var 2) (.cons (.var 3) (.cons (.bvar 4) (.cons (.var 5) (.cons (.var 6) (.cons (.bvar 7) (.cons (.var 8) (.cons (.var 9) (.cons (.bvar 10) (.cons (.var 11) (.cons (.var 12) (.cons (.bvar 13) (.cons (.var 14) (.cons (.var 15) (.cons (.bvar 16) (.cons (.var 17) (.cons (.var 18) (.cons (.bvar 19) (.cons (.var 20) (.cons (.var 21) (.cons (.bvar 22) (.cons (.var 23) (.cons (.var 24) (.cons (.bvar 25) (.cons (.var 26) (.cons (.var 27) (.cons (.bvar 28) (.cons (.var 29) (.cons (.var 30) .nil))))))))))))))))))))))))))))))))))
 (.ite (.ite (.lt (.var 21) (.var 20)) (.lit 1) (.ite (.not (.bvar 19)) (.not (.ite (.not (.bvar 19)) (.ite (.eq (.var 20) (.lit 0)) (.eq (.var 21) (.lit 0)) (.lit 0)) (.lit 0))) (.lit 0)))
 (.goal (.iff (.lit 0) (.app (.app 301 (.cons (.bvar 1) (.cons (.var 2) (.cons (.var 3) (.cons (.bvar 4) (.cons (.var 5) (.cons (.var 6) (.cons (.bvar 7) (.cons (.var 8) (.cons (.var 9) (.cons (.bvar 10) (.cons (.var 11) (.cons (.var 12) (.cons (.bvar 13) (.cons (.var 14) (.cons (.var 15) (.cons (.bvar 16) (.cons (.var 17) (.cons (.var 18) (.cons (.bvar 19) (.cons (.var 20) (.cons (.var 21) (.cons (.bvar 22) (.cons (.var 23) (.cons (.var 24) (.cons (.bvar 25) (.cons (.var 26) (.cons (.var 27) (.cons (.bvar 28) (.cons (.var 29) (.cons (.var 30) .nil))))))))))))))))))))))))))))))))))
 (.ite (.ite (.lt (.var 24) (.var 23)) (.lit 1) (.ite (.not (.bvar 22)) (.not (.ite (.not (.bvar 22)) (.ite (.eq (.var 23) (.lit 0)) (.eq (.var 24) (.lit 0)) (.lit 0)) (.lit 0))) (.lit 0)))
 (.goal (.iff (.lit 0) (.app (.app 301 (.cons (.bvar 1) (.cons (.var 2) (.cons (.var 3) (.cons (.bvar 4) (.cons (.var 5) (.cons (.var 6) (.cons (.bvar 7) (.cons (.var 8) (.cons (.var 9) (.cons (.bvar 10) (.cons (.var 11) (.cons (.var 12) (.cons (.bvar 13) (.cons (.var 14) (.cons (.var 15) (.cons (.bvar 16) (.cons (.var 17) (.cons (.var 18) (.cons (.bvar 19) (.cons (.var 20) (.cons (.var 21) (.cons (.bvar 22) (.cons (.var 23) (.cons (.var 24) (.cons (.bvar 25) (.cons (.var 26) (.cons (.var 27) (.cons (.bvar 28) (.cons (.var 29) (.cons (.var 30) .nil))))))))))))))))))))))))))))))))))
 (.ite (.ite (.lt (.var 27) (.var 26)) (.lit 1) (.ite (.not (.bvar 25)) (.not (.ite (.not (.bvar 25)) (.ite (.eq (.var 26) (.lit 0)) (.eq (.var 27) (.lit 0)) (.lit 0)) (.lit 0))) (.lit 0)))
 (.goal (.iff (.lit 0) (.app (.app 301 (.cons (.bvar 1) (.cons (.var 2) (.cons (.var 3) (.cons (.bvar 4) (.cons (.var 5) (.cons (.var 6) (.cons (.bvar 7) (.cons (.var 8) (.cons (.var 9) (.cons (.bvar 10) (.cons (.var 11) (.cons (.var 12) (.cons (.bvar 13) (.cons (.var 14) (.cons (.var 15) (.cons (.bvar 16) (.cons (.var 17) (.cons (.var 18) (.cons (.bvar 19) (.cons (.var 20) (.cons (.var 21) (.cons (.bvar 22) (.cons (.var 23) (.cons (.var 24) (.cons (.bvar 25) (.cons (.var 26) (.cons (.var 27) (.cons (.bvar 28) (.cons (.var 29) (.cons (.var 30) .nil))))))))))))))))))))))))))))))))))
 (.ite (.ite (.lt (.var 30) (.var 29)) (.lit 1) (.ite (.not (.bvar 28)) (.not (.ite (.not (.bvar 28)) (.ite (.eq (.var 29) (.lit 0)) (.eq (.var 30) (.lit 0)) (.lit 0)) (.lit 0))) (.lit 0)))
 (.goal (.iff (.lit 0) (.app (.app 301 (.cons (.bvar 1) (.cons (.var 2) (.cons (.var 3) (.cons (.bvar 4) (.cons (.var 5) (.cons (.var 6) (.cons (.bvar 7) (.cons (.var 8) (.cons (.var 9) (.cons (.bvar 10) (.cons (.var 11) (.cons (.var 12) (.cons (.bvar 13) (.cons (.var 14) (.cons (.var 15) (.cons (.bvar 16) (.cons (.var 17) (.cons (.var 18) (.cons (.bvar 19) (.cons (.var 20) (.cons (.var 21) (.cons (.bvar 22) (.cons (.var 23) (.cons (.var 24) (.cons (.bvar 25) (.cons (.var 26) (.cons (.var 27) (.cons (.bvar 28) (.cons (.var 29) (.cons (.var 30) .nil))))))))))))))))))))))))))))))))))
 (.goal (.iff (.lit 1) (.app (.app 301 (.cons (.bvar 1) (.cons (.var 2) (.cons (.var 3) (.cons (.bvar 4) (.cons (.var 5) (.cons (.var 6) (.cons (.bvar 7) (.cons (.var 8) (.cons (.var 9) (.cons (.bvar 10) (.cons (.var 11) (.cons (.var 12) (.cons (.bvar 13) (.cons (.var 14) (.cons (.var 15) (.cons (.bvar 16) (.cons (.var 17) (.cons (.var 18) (.cons (.bvar 19) (.cons (.var 20) (.cons (.var 21) (.cons (.bvar 22) (.cons (.var 23) (.cons (.var 24) (.cons (.bvar 25) (.cons (.var 26) (.cons (.var 27) (.cons (.bvar 28) (.cons (.var 29) (.cons (.var 30) .nil))))))))))))))))))))))))))))))))))))))))))))
set_option maxHeartbeats 8000000 in
theorem right29_ev : finT [] (chk rightC.post (evFn Try.prog noC 20 30 29 (symA 0 rightC.shs) [] rightC.pre)) = right29T := by kernel_rfl
set_option maxHeartbeats 16000000 in
theorem right29_holds (ρ : Env) (hI : ρ.I = CI) (hpre : ∀ e ∈ rightC.pre, e.denB ρ = true) (hf : ρ.Fits []) : right29T.Holds ρ := by
  simp only [right29T, NT.Holds, N.denP, N.den, E.denB, E.den, E.denL, appI, hI, den_right, cond29]
  simp only [rightL, and_true]
  refine ⟨fun h => ⟨fun h0 => absurd rfl h0, fun hr => absurd hr.1 h⟩, fun h0 => ?_⟩
  refine ⟨fun h => ⟨fun h0 => absurd rfl h0, fun hr => absurd hr.2.1 h⟩, fun h1 => ?_⟩
  refine ⟨fun h => ⟨fun h0 => absurd rfl h0, fun hr => absurd hr.2.2.1 h⟩, fun h2 => ?_⟩
  refine ⟨fun h => ⟨fun h0 => absurd rfl h0, fun hr => absurd hr.2.2.2.1 h⟩, fun h3 => ?_⟩
  refine ⟨fun h => ⟨fun h0 => absurd rfl h0, fun hr => absurd hr.2.2.2.2.1 h⟩, fun h4 => ?_⟩
  refine ⟨fun h => ⟨fun h0 => absurd rfl h0, fun hr => absurd hr.2.2.2.2.2.1 h⟩, fun h5 => ?_⟩
  refine ⟨fun h => ⟨fun h0 => absurd rfl h0, fun hr => absurd hr.2.2.2.2.2.2.1 h⟩, fun h6 => ?_⟩
  refine ⟨fun h => ⟨fun h0 => absurd rfl h0, fun hr => absurd hr.2.2.2.2.2.2.2.1 h⟩, fun h7 => ?_⟩
  refine ⟨fun h => ⟨fun h0 => absurd rfl h0, fun hr => absurd hr.2.2.2.2.2.2.2.2.1 h⟩, fun h8 => ?_⟩
  refine ⟨fun h => ⟨fun h0 => absurd rfl h0, fun hr => absurd hr.2.2.2.2.2.2.2.2.2 h⟩, fun h9 => ?_⟩
  exact ⟨fun _ => ⟨Classical.byContradiction h0, Classical.byContradiction h1, Classical.byContradiction h2, Classical.byContradiction h3, Classical.byContradiction h4, Classical.byContradiction h5, Classical.byContradiction h6, Classical.byContradiction h7, Classical.byContradiction h8, Classical.byContradiction h9⟩, fun _ => by simp⟩

theorem right29_ok : rightC.Ok Try.prog CI 29 := PC.of_tree (fun _ _ _ _ h => by cases h) (by kernel_rfl) right29_ev (fun _ _ _ _ _ _ h => by simp at h) right29_holds

def right16T : NT :=
 (.ite (.ite (.lt (.var 3) (.var 2)) (.lit 1) (.ite (.not (.bvar 1)) (.ite (.not (.eq (.var 2) (.lit 0))) (.lit 1) (.not (.eq (.var 3) (.lit 0)))) (.lit 0)))
 (.goal (.iff (.lit 0) (.app (.app 301 (.cons (.bvar 1) (.cons (.var 2) (.cons (.var 3) (.cons (.bvar 4) (.cons (.var 5) (.cons (.var 6) (.cons (.bvar 7) (.cons (.var 8) (.cons (.var 9) (.cons (.bvar 10) (.cons (.var 11) (.cons (.var 12) (.cons (.bvar 13) (.cons (.var 14) (.cons (.var 15) (.cons (.bvar 16) (.cons (.var 17) (.cons (.var 18) (.cons (.bvar 19) (.cons (.var 20) (.cons (.var 21) (.cons (.bvar 22) (.cons (.var 23) (.cons (.var 24) (.cons (.bvar 25) (.cons (.var 26) (.cons (.var 27) (.cons (.bvar 28) (.cons (.var 29) (.cons (.var 30) .nil))))))))))))))))))))))))))))))))))
 (.ite (.ite (.lt (.var 6) (.var 5)) (.lit 1) (.ite (.not (.bvar 4)) (.ite (.not (.eq (.var 5) (.lit 0))) (.lit 1) (.not (.eq (.var 6) (.lit 0)))) (.lit 0)))
 (.goal (.iff (.lit 0) (.app (.app 301 (.cons (.bvar 1) (.cons (.var 2) (.cons (.var 3) (.cons (.bvar 4) (.cons (.var 5) (.cons (.var 6) (.cons (.bvar 7) (.cons (.var 8) (.cons (.var 9) (.cons (.bvar 10) (.cons (.var 11) (.cons (.var 12) (.cons (.bvar 13) (.cons (.var 14) (.cons (.var 15) (.cons (.bvar 16) (.cons (.var 17) (.cons (.var 18) (.cons (.bvar 19) (.cons (.var 20) (.cons (.var 21) (.cons (.bvar 22) (.cons (.var 23) (.cons (.var 24) (.cons (.bvar 25) (.cons (.var 26) (.cons (.var 27) (.cons (.bvar 28) (.cons (.var 29) (.cons (.var 30) .nil))))))))))))))))))))))))))))))))))
 (.ite (.ite (.lt (.var 9) (.var 8)) (.lit 1) (.ite (.not (.bvar 7)) (.ite (.not (.eq (.var 8) (.lit 0))) (.lit 1) (.not (.eq (.var 9) (.lit 0)))) (.lit 0)))
 (.goal (.iff (.lit 0) (.app (.app 301 (.cons (.bvar 1) (.cons (.var 2) (.cons (.var 3) (.cons (.bvar 4) (.cons (.var 5) (.cons (.var 6) (.cons (.bvar 7) (.cons (.var 8) (.cons (.var 9) (.cons (.bvar 10) (.cons (.var 11) (.cons (.var 12) (.cons (.bvar 13) (.cons (.var 14) (.cons (.var 15) (.cons (.bvar 16) (.cons (.var 17) (.cons (.var 18) (.cons (.bvar 19) (.cons (.var 20) (.cons (.var 21) (.cons (.bvar 22) (.cons (.var 23) (.cons (.var 24) (.cons (.bvar 25) (.cons (.var 26) (.cons (.var 27) (.cons (.bvar 28) (.cons (.var 29) (.cons (.var 30) .nil))))))))))))))))))))))))))))))))))
 (.ite (.ite (.lt (.var 12) (.var 11)) (.lit 1) (.ite (.not (.bvar 10)) (.ite (.not (.eq (.var 11) (.lit 0))) (.lit 1) (.not (.eq (.var 12) (.lit 0)))) (.lit 0)))
 (.goal (.iff (.lit 0) (.app (.app 301 (.cons (.bvar 1) (.cons (.var 2) (.cons (.var 3) (.cons (.bvar 4) (.cons (.var 5) (.cons (.var 6) (.cons (.bvar 7) (.cons (.var 8) (.cons (.var 9) (.cons (.bvar 10) (.cons (.var 11) (.cons (.var 12) (.cons (.bvar 13) (.cons (.var 14) (.cons (.var 15) (.cons (.bvar 16) (.cons (.var 17) (.cons (.var 18) (.cons (.bvar 19) (.cons (.var 20) (.cons (.var 21) (.cons (.bvar 22) (.cons (.var 23) (.cons (.var 24) (.cons (.bvar 25) (.cons (.var 26) (.cons (.var 27) (.cons (.bvar 28) (.cons (.var 29) (.cons (.var 30) .nil))))))))))))))))))))))))))))))))))
 (.ite (.ite (.lt (.var 15) (.var 14)) (.lit 1) (.ite (.not (.bvar 13)) (.ite (.not (.eq (.var 14) (.lit 0))) (.lit 1) (.not (.eq (.var 15) (.lit 0)))) (.lit 0)))
 (.goal (.iff (.lit 0) (.app (.app 301 (.cons (.bvar 1) (.cons (.var 2) (.cons (.var 3) (.cons (.bvar 4) (.cons (.var 5) (.cons (.var 6) (.cons (.bvar 7) (.cons (.var 8) (.cons (.var 9) (.cons (.bvar 10) (.cons (.var 11) (.cons (.var 12) (.cons (.bvar 13) (.cons (.var 14) (.cons (.var 15) (.cons (.bvar 16) (.cons (.var 17) (.cons (.var 18) (.cons (.bvar 19) (.cons (.var 20) (.cons (.var 21) (.cons (.bvar 22) (.cons (.var 23) (.cons (.var 24) (.cons (.bvar 25) (.cons (.var 26) (.cons (.var 27) (.cons (.bvar 28) (.cons (.var 29) (.cons (.var 30) .nil))))))))))))))))))))))))))))))))))
 (.ite (.ite (.lt (.var 18) (.var 17)) (.lit 1) (.ite (.not (.bvar 16)) (.ite (.not (.eq (.var 17) (.lit 0))) (.lit 1) (.not (.eq (.var 18) (.lit 0)))) (.lit 0)))
 (.goal (.iff (.lit 0) (.app (.app 301 (.cons (.bvar 1) (.cons (.var 2) (.cons (.var 3) (.cons (.bvar 4) (.cons (.var 5) (.cons (.var 6) (.cons (.bvar 7) (.cons (.var 8) (.cons (.var 9) (.cons (.bvar 10) (.cons (.var 11) (.cons (.var 12) (.cons (.bvar 13) (.cons (.var 14) (.cons (.var 15) (.cons (.bvar 16) (.cons (.var 17) (.cons (.var 18) (.cons (.bvar 19) (.cons (.var 20) (.cons (.var 21) (.cons (.bvar 22) (.cons (.var 23) (.cons (.var 24) (.cons (.bvar 25) (.cons (.var 26) (.cons (.var 27) (.cons (.bvar 28) (.cons (.var 29) (.cons (.var 30) .nil))))))))))))))))))))))))))))))))))
 (.ite (.ite (.lt (.var 21) (.var 20)) (.lit 1) (.ite (.not (.bvar 19)) (.ite (.not (.eq (.var 20) (.lit 0))) (.lit 1) (.not (.eq (.var 21) (.lit 0)))) (.lit 0)))
 (.goal (.iff (.lit 0) (.app (.app 301 (.cons (.bvar 1) (.cons (.var 2) (.cons (.var 3) (.cons (.bvar 4) (.cons (.var 5) (.cons (.var 6) (.cons (.bvar 7) (.cons (.var 8) (.cons (.var 9) (.cons (.bvar 10) (.cons (.var 11) (.cons (.var 12) (.cons (.bvar 13) (.cons (.var 14) (.cons (.var 15) (.cons (.bvar 16) (.cons (.var 17) (.cons (.var 18) (.cons (.bvar 19) (.cons (.var 20) (.cons (.var 21) (.cons (.bvar 22) (.cons (.var 23) (.cons (.var 24) (.cons (.bvar 25) (.cons (.var 26) (.cons (.var 27) (.cons (.bvar 28) (.cons (.var 29) (.cons (.var 30) .nil))))))))))))))))))))))))))))))))))
 (.ite (.ite (.lt (.var 24) (.var 23)) (.lit 1) (.ite (.not (.bvar 22)) (.ite (.not (.eq (.var 23) (.lit 0))) (.lit 1) (.not (.eq (.var 24) (.lit 0)))) (.lit 0)))
 (.goal (.iff (.lit 0) (.app (.app 301 (.cons (.bvar 1) (.cons (.var 2) (.cons (.var 3) (.cons (.bvar 4) (.cons (.var 5) (.cons (.var 6) (.cons (.bvar 7) (.cons (.var 8) (.cons (.var 9) (.cons (.bvar 10) (.cons (.var 11) (.cons (.var 12) (.cons (.bvar 13) (.cons (.var 14) (.cons (.var 15) (.cons (.bvar 16) (.cons (.var 17) (.cons (.var 18) (.cons (.bvar 19) (.cons (.var 20) (.cons (.var 21) (.cons (.bvar 22) (.cons (.var 23) (.cons (.var 24) (.cons (.bvar 25) (.cons (.var 26) (.cons (.var 27) (.cons (.bvar 28) (.cons (.var 29) (.cons (.var 30) .nil))))))))))))))))))))))))))))))))))
 (.ite (.ite (.lt (.var 27) (.var 26)) (.lit 1) (.ite (.not (.bvar 25)) (.ite (.not (.eq (.var 26) (.lit 0))) (.lit 1) (.not (.eq (.var 27) (.lit 0)))) (.lit 0)))
 (.goal (.iff (.lit 0) (.app (.app 301 (.cons (.bvar 1) (.cons (.var 2) (.cons (.var 3) (.cons (.bvar 4) (.cons (.var 5) (.cons (.var 6) (.cons (.bvar 7) (.cons (.var 8) (.cons (.var 9) (.cons (.bvar 10) (.cons (.var 11) (.cons (.var 12) (.cons (.bvar 13) (.cons (.var 14) (.cons (.var 15) (.cons (.bvar 16) (.cons (.var 17) (.cons (.var 18) (.cons (.bvar 19) (.cons (.var 20) (.cons (.var 21) (.cons (.bvar 22) (.cons (.var 23) (.cons (.var 24) (.cons (.bvar 25) (.cons (.var 26) (.cons (.var 27) (.cons (.bvar 28) (.cons (.var 29) (.cons (.var 30) .nil))))))))))))))))))))))))))))))))))
 (.ite (.ite (.lt (.var 30) (.var 29)) (.lit 1) (.ite (.not (.bvar 28)) (.ite (.not (.eq (.var 29) (.lit 0))) (.lit 1) (.not (.eq (.var 30) (.lit 0)))) (.lit 0)))
 (.goal (.iff (.lit 0) (.app (.app 301 (.cons (.bvar 1) (.cons (.var 2) (.cons (.var 3) (.cons (.bvar 4) (.cons (.var 5) (.cons (.var 6) (.cons (.bvar 7) (.cons (.var 8) (.cons (.var 9) (.cons (.bvar 10) (.cons (.var 11) (.cons (.var 12) (.cons (.bvar 13) (.cons (.var 14) (.cons (.var 15) (.cons (.bvar 16) (.cons (.var 17) (.cons (.var 18) (.cons (.bvar 19) (.cons (.var 20) (.cons (.var 21) (.cons (.bvar 22) (.cons (.var 23) (.cons (.var 24) (.cons (.bvar 25) (.cons (.var 26) (.cons (.var 27) (.cons (.bvar 28) (.cons (.var 29) (.cons (.var 30) .nil))))))))))))))))))))))))))))))))))
 (.goal (.iff (.lit 1) (.app (.app 301 (.cons (.bvar 1) (.cons (.var 2) (.cons (.var 3) (.cons (.bvar 4) (.cons (.var 5) (.cons (.var 6) (.cons (.bvar 7) (.cons (.var 8) (.cons (.var 9) (.cons (.bvar 10) (.cons (.var 11) (.cons (.var 12) (.cons (.bvar 13) (.cons (.var 14) (.cons (.var 15) (.cons (.bvar 16) (.cons (.var 17) (.cons (.var 18) (.cons (.bvar 19) (.cons (.var 20) (.cons (.var 21) (.cons (.bvar 22) (.cons (.var 23) (.cons (.var 24) (.cons (.bvar 25) (.cons (.var 26) (.cons (.var 27) (.cons (.bvar 28) (.cons (.var 29) (.cons (.var 30) .nil))))))))))))))))))))))))))))))))))))))))))))
set_option maxHeartbeats 8000000 in
theorem right16_ev : finT [] (chk rightC.post (evFn Try.prog noC 20 30 16 (symA 0 rightC.shs) [] rightC.pre)) = right16T := by kernel_rfl
set_option maxHeartbeats 16000000 in
theorem right16_holds (ρ : Env) (hI : ρ.I = CI) (hpre : ∀ e ∈ rightC.pre, e.denB ρ = true) (hf : ρ.Fits []) : right16T.Holds ρ := by
  simp only [right16T, NT.Holds, N.denP, N.den, E.denB, E.den, E.denL, appI, hI, den_right, cond16]
  simp only [rightL, and_true]
  refine ⟨fun h => ⟨fun h0 => absurd rfl h0, fun hr => absurd hr.1 h⟩, fun h0 => ?_⟩
  refine ⟨fun h => ⟨fun h0 => absurd rfl h0, fun hr => absurd hr.2.1 h⟩, fun h1 => ?_⟩
  refine ⟨fun h => ⟨fun h0 => absurd rfl h0, fun hr => absurd hr.2.2.1 h⟩, fun h2 => ?_⟩
  refine ⟨fun h => ⟨fun h0 => absurd rfl h0, fun hr => absurd hr.2.2.2.1 h⟩, fun h3 => ?_⟩
  refine ⟨fun h => ⟨fun h0 => absurd rfl h0, fun hr => absurd hr.2.2.2.2.1 h⟩, fun h4 => ?_⟩
  refine ⟨fun h => ⟨fun h0 => absurd rfl h0, fun hr => absurd hr.2.2.2.2.2.1 h⟩, fun h5 => ?_⟩
  refine ⟨fun h => ⟨fun h0 => absurd rfl h0, fun hr => absurd hr.2.2.2.2.2.2.1 h⟩, fun h6 => ?_⟩
  refine ⟨fun h => ⟨fun h0 => absurd rfl h0, fun hr => absurd hr.2.2.2.2.2.2.2.1 h⟩, fun h7 => ?_⟩
  refine ⟨fun h => ⟨fun h0 => absurd rfl h0, fun hr => absurd hr.2.2.2.2.2.2.2.2.1 h⟩, fun h8 => ?_⟩
  refine ⟨fun h => ⟨fun h0 => absurd rfl h0, fun hr => absurd hr.2.2.2.2.2.2.2.2.2 h⟩, fun h9 => ?_⟩
  exact ⟨fun _ => ⟨Classical.byContradiction h0, Classical.byContradiction h1, Classical.byContradiction h2, Classical.byContradiction h3, Classical.byContradiction h4, Classical.byContradiction h5, Classical.byContradiction h6, Classical.byContradiction h7, Classical.byContradiction h8, Classical.byContradiction h9⟩, fun _ => by simp⟩

theorem right16_ok : rightC.Ok Try.prog CI 16 := PC.of_tree (fun _ _ _ _ h => by cases h) (by kernel_rfl) right16_ev (fun _ _ _ _ _ _ h => by simp at h) right16_holds

theorem den_ones (x : Int) : clampF 71 (CI 71 [x]) = ones x := rfl
theorem den_power (x : Int) : clampF 72 (CI 72 [x]) = 2 ^ x.toNat := rfl
def ones53T : NT :=
 (.ite (.lt (.lit 0) (.var 0))
 (.ite (.lt (.lit 1) (.var 0))
 (.ite (.lt (.lit 3) (.var 0))
 (.ite (.lt (.lit 7) (.var 0))
 (.ite (.lt (.lit 15) (.var 0))
 (.ite (.lt (.lit 31) (.var 0))
 (.ite (.lt (.lit 63) (.var 0))
 (.ite (.lt (.lit 127) (.var 0))
 (.ite (.lt (.lit 255) (.var 0))
 (.ite (.lt (.lit 511) (.var 0))
 (.ite (.lt (.lit 1023) (.var 0))
 (.ite (.lt (.lit 2047) (.var 0))
 (.ite (.lt (.lit 4095) (.var 0))
 (.ite (.lt (.lit 8191) (.var 0))
 (.ite (.lt (.lit 16383) (.var 0))
 (.ite (.lt (.lit 32767) (.var 0))
 (.ite (.lt (.lit 65535) (.var 0))
 (.ite (.lt (.lit 131071) (.var 0))
 (.ite (.lt (.lit 262143) (.var 0))
 (.ite (.lt (.lit 524287) (.var 0))
 (.ite (.lt (.lit 1048575) (.var 0))
 (.ite (.lt (.lit 2097151) (.var 0))
 (.ite (.lt (.lit 4194303) (.var 0))
 (.ite (.lt (.lit 8388607) (.var 0))
 (.ite (.lt (.lit 16777215) (.var 0))
 (.ite (.lt (.lit 33554431) (.var 0))
 (.ite (.lt (.lit 67108863) (.var 0))
 (.ite (.lt (.lit 134217727) (.var 0))
 (.ite (.lt (.lit 268435455) (.var 0))
 (.ite (.lt (.lit 536870911) (.var 0))
 (.ite (.lt (.lit 1073741823) (.var 0))
 (.ite (.lt (.lit 2147483647) (.var 0))
 (.goal (.eq (.lit 4294967295) (.app (.app 71 (.cons (.var 0) .nil)))))
 (.goal (.eq (.lit 2147483647) (.app (.app 71 (.cons (.var 0) .nil))))))
 (.goal (.eq (.lit 1073741823) (.app (.app 71 (.cons (.var 0) .nil))))))
 (.goal (.eq (.lit 536870911) (.app (.app 71 (.cons (.var 0) .nil))))))
 (.goal (.eq (.lit 268435455) (.app (.app 71 (.cons (.var 0) .nil))))))
 (.goal (.eq (.lit 134217727) (.app (.app 71 (.cons (.var 0) .nil))))))
 (.goal (.eq (.lit 67108863) (.app (.app 71 (.cons (.var 0) .nil))))))
 (.goal (.eq (.lit 33554431) (.app (.app 71 (.cons (.var 0) .nil))))))
 (.goal (.eq (.lit 16777215) (.app (.app 71 (.cons (.var 0) .nil))))))
 (.goal (.eq (.lit 8388607) (.app (.app 71 (.cons (.var 0) .nil))))))
 (.goal (.eq (.lit 4194303) (.app (.app 71 (.cons (.var 0) .nil))))))
 (.goal (.eq (.lit 2097151) (.app (.app 71 (.cons (.var 0) .nil))))))
 (.goal (.eq (.lit 1048575) (.app (.app 71 (.cons (.var 0) .nil))))))
 (.goal (.eq (.lit 524287) (.app (.app 71 (.cons (.var 0) .nil))))))
 (.goal (.eq (.lit 262143) (.app (.app 71 (.cons (.var 0) .nil))))))
 (.goal (.eq (.lit 131071) (.app (.app 71 (.cons (.var 0) .nil))))))
 (.goal (.eq (.lit 65535) (.app (.app 71 (.cons (.var 0) .nil))))))
 (.goal (.eq (.lit 32767) (.app (.app 71 (.cons (.var 0) .nil))))))
 (.goal (.eq (.lit 16383) (.app (.app 71 (.cons (.var 0) .nil))))))
 (.goal (.eq (.lit 8191) (.app (.app 71 (.cons (.var 0) .nil))))))
 (.goal (.eq (.lit 4095) (.app (.app 71 (.cons (.var 0) .nil))))))
 (.goal (.eq (.lit 2047) (.app (.app 71 (.cons (.var 0) .nil))))))
 (.goal (.eq (.lit 1023) (.app (.app 71 (.cons (.var 0) .nil))))))
 (.goal (.eq (.lit 511) (.app (.app 71 (.cons (.var 0) .nil))))))
 (.goal (.eq (.lit 255) (.app (.app 71 (.cons (.var 0) .nil))))))
 (.goal (.eq (.lit 127) (.app (.app 71 (.cons (.var 0) .nil))))))
 (.goal (.eq (.lit 63) (.app (.app 71 (.cons (.var 0) .nil))))))
 (.goal (.eq (.lit 31) (.app (.app 71 (.cons (.var 0) .nil))))))
 (.goal (.eq (.lit 15) (.app (.app 71 (.cons (.var 0) .nil))))))
 (.goal (.eq (.lit 7) (.app (.app 71 (.cons (.var 0) .nil))))))
 (.goal (.eq (.lit 3) (.app (.app 71 (.cons (.var 0) .nil))))))
 (.goal (.eq (.lit 1) (.app (.app 71 (.cons (.var 0) .nil))))))
 (.goal (.eq (.lit 0) (.app (.app 71 (.cons (.var 0) .nil))))))
set_option maxHeartbeats 8000000 in
theorem ones53_ev : finT [(0, 4294967295)] (chk onesC.post (evFn Try.prog noC 40 30 53 (symA 0 onesC.shs) [] onesC.pre)) = ones53T := by kernel_rfl
set_option maxHeartbeats 16000000 in
theorem ones53_holds (ρ : Env) (hI : ρ.I = CI) (hpre : ∀ e ∈ onesC.pre, e.denB ρ = true) (hf : ρ.Fits [(0, 4294967295)]) : ones53T.Holds ρ := by
  have h0 := hf 0 0 4294967295 rfl
  simp only [ones53T, NT.Holds, N.denP, N.den, E.den, E.denL, appI, hI, den_ones]
  generalize ρ.i 0 = x at *
  clear hpre hf hI
  refine ⟨fun h => ?_, fun h => ?_⟩
  rotate_left
  · obtain rfl : x = 0 := (by omega); simp only [ones, onesN]; rw [if_neg (by omega)]
  replace h0 : 1 ≤ x ∧ x ≤ 4294967295 := by omega
  clear h
  refine ⟨fun h => ?_, fun h => ?_⟩
  rotate_left
  · have h2 : 1 ≤ x := (by omega); simp only [ones, onesN]; rw [if_pos (by omega), if_neg (by omega)]; omega
  replace h0 : 2 ≤ x ∧ x ≤ 4294967295 := by omega
  clear h
  refine ⟨fun h => ?_, fun h => ?_⟩
  rotate_left
  · have h2 : 2 ≤ x := (by omega); simp only [ones, onesN]; rw [if_pos (by omega), if_pos (by omega), if_neg (by omega)]; omega
  replace h0 : 4 ≤ x ∧ x ≤ 4294967295 := by omega
  clear h
  refine ⟨fun h => ?_, fun h => ?_⟩
  rotate_left
  · have h2 : 4 ≤ x := (by omega); simp only [ones, onesN]; rw [if_pos (by omega), if_pos (by omega), if_pos (by omega), if_neg (by omega)]; omega
  replace h0 : 8 ≤ x ∧ x ≤ 4294967295 := by omega
  clear h
  refine ⟨fun h => ?_, fun h => ?_⟩
  rotate_left
  · have h2 : 8 ≤ x := (by omega); simp only [ones, onesN]; rw [if_pos (by omega), if_pos (by omega), if_pos (by omega), if_pos (by omega), if_neg (by omega)]; omega
  replace h0 : 16 ≤ x ∧ x ≤ 4294967295 := by omega
  clear h
  refine ⟨fun h => ?_, fun h => ?_⟩
  rotate_left
  · have h2 : 16 ≤ x := (by omega); simp only [ones, onesN]; rw [if_pos (by omega), if_pos (by omega), if_pos (by omega), if_pos (by omega), if_pos (by omega), if_neg (by omega)]; omega
  replace h0 : 32 ≤ x ∧ x ≤ 4294967295 := by omega
  clear h
  refine ⟨fun h => ?_, fun h => ?_⟩
  rotate_left
  · have h2 : 32 ≤ x := (by omega); simp only [ones, onesN]; rw [if_pos (by omega), if_pos (by omega), if_pos (by omega), if_pos (by omega), if_pos (by omega), if_pos (by omega), if_neg (by omega)]; omega
  replace h0 : 64 ≤ x ∧ x ≤ 4294967295 := by omega
  clear h
  refine ⟨fun h => ?_, fun h => ?_⟩
  rotate_left
  · have h2 : 64 ≤ x := (by omega); simp only [ones, onesN]; rw [if_pos (by omega), if_pos (by omega), if_pos (by omega), if_pos (by omega), if_pos (by omega), if_pos (by omega), if_pos (by omega), if_neg (by omega)]; omega
  replace h0 : 128 ≤ x ∧ x ≤ 4294967295 := by omega
  clear h
  refine ⟨fun h => ?_, fun h => ?_⟩
  rotate_left
  · have h2 : 128 ≤ x := (by omega); simp only [ones, onesN]; rw [if_pos (by omega), if_pos (by omega), if_pos (by omega), if_pos (by omega), if_pos (by omega), if_pos (by omega), if_pos (by omega), if_pos (by omega), if_neg (by omega)]; omega
  replace h0 : 256 ≤ x ∧ x ≤ 4294967295 := by omega
  clear h
  refine ⟨fun h => ?_, fun h => ?_⟩
  rotate_left
  · have h2 : 256 ≤ x := (by omega); simp only [ones, onesN]; rw [if_pos (by omega), if_pos (by omega), if_pos (by omega), if_pos (by omega), if_pos (by omega), if_pos (by omega), if_pos (by omega), if_pos (by omega), if_pos (by omega), if_neg (by omega)]; omega
  replace h0 : 512 ≤ x ∧ x ≤ 4294967295 := by omega
  clear h
  refine ⟨fun h => ?_, fun h => ?_⟩
  rotate_left
  · have h2 : 512 ≤ x := (by omega); simp only [ones, onesN]; rw [if_pos (by omega), if_pos (by omega), if_pos (by omega), if_pos (by omega), if_pos (by omega), if_pos (by omega), if_pos (by omega), if_pos (by omega), if_pos (by omega), if_pos (by omega), if_neg (by omega)]; omega
  replace h0 : 1024 ≤ x ∧ x ≤ 4294967295 := by omega
  clear h
  refine ⟨fun h => ?_, fun h => ?_⟩
  rotate_left
  · have h2 : 1024 ≤ x := (by omega); simp only [ones, onesN]; rw [if_pos (by omega), if_pos (by omega), if_pos (by omega), if_pos (by omega), if_pos (by omega), if_pos (by omega), if_pos (by omega), if_pos (by omega), if_pos (by omega), if_pos (by omega), if_pos (by omega), if_neg (by omega)]; omega
  replace h0 : 2048 ≤ x ∧ x ≤ 4294967295 := by omega
  clear h
  refine ⟨fun h => ?_, fun h => ?_⟩
  rotate_left
  · have h2 : 2048 ≤ x := (by omega); simp only [ones, onesN]; rw [if_pos (by omega), if_pos (by omega), if_pos (by omega), if_pos (by omega), if_pos (by omega), if_pos (by omega), if_pos (by omega), if_pos (by omega), if_pos (by omega), if_pos (by omega), if_pos (by omega), if_pos (by omega), if_neg (by omega)]; omega
  replace h0 : 4096 ≤ x ∧ x ≤ 4294967295 := by omega
  clear h
  refine ⟨fun h => ?_, fun h => ?_⟩
  rotate_left
  · have h2 : 4096 ≤ x := (by omega); simp only [ones, onesN]; rw [if_pos (by omega), if_pos (by omega), if_pos (by omega), if_pos (by omega), if_pos (by omega), if_pos (by omega), if_pos (by omega), if_pos (by omega), if_pos (by omega), if_pos (by omega), if_pos (by omega), if_pos (by omega), if_pos (by omega), if_neg (by omega)]; omega
  replace h0 : 8192 ≤ x ∧ x ≤ 4294967295 := by omega
  clear h
  refine ⟨fun h => ?_, fun h => ?_⟩
  rotate_left
  · have h2 : 8192 ≤ x := (by omega); simp only [ones, onesN]; rw [if_pos (by omega), if_pos (by omega), if_pos (by omega), if_pos (by omega), if_pos (by omega), if_pos (by omega), if_pos (by omega), if_pos (by omega), if_pos (by omega), if_pos (by omega), if_pos (by omega), if_pos (by omega), if_pos (by omega), if_pos (by omega), if_neg (by omega)]; omega
  replace h0 : 16384 ≤ x ∧ x ≤ 4294967295 := by omega
  clear h
  refine ⟨fun h => ?_, fun h => ?_⟩
  rotate_left
  · have h2 : 16384 ≤ x := (by omega); simp only [ones, onesN]; rw [if_pos (by omega), if_pos (by omega), if_pos (by omega), if_pos (by omega), if_pos (by omega), if_pos (by omega), if_pos (by omega), if_pos (by omega), if_pos (by omega), if_pos (by omega), if_pos (by omega), if_pos (by omega), if_pos (by omega), if_pos (by omega), if_pos (by omega), if_neg (by omega)]; omega
  replace h0 : 32768 ≤ x ∧ x ≤ 4294967295 := by omega
  clear h
  refine ⟨fun h => ?_, fun h => ?_⟩
  rotate_left
  · have h2 : 32768 ≤ x := (by omega); simp only [ones, onesN]; rw [if_pos (by omega), if_pos (by omega), if_pos (by omega), if_pos (by omega), if_pos (by omega), if_pos (by omega), if_pos (by omega), if_pos (by omega), if_pos (by omega), if_pos (by omega), if_pos (by omega), if_pos (by omega), if_pos (by omega), if_pos (by omega), if_pos (by omega), if_pos (by omega), if_neg (by omega)]; omega
  replace h0 : 65536 ≤ x ∧ x ≤ 4294967295 := by omega
  clear h
  refine ⟨fun h => ?_, fun h => ?_⟩
  rotate_left
  · have h2 : 65536 ≤ x := (by omega); simp only [ones, onesN]; rw [if_pos (by omega), if_pos (by omega), if_pos (by omega), if_pos (by omega), if_pos (by omega), if_pos (by omega), if_pos (by omega), if_pos (by omega), if_pos (by omega), if_pos (by omega), if_pos (by omega), if_pos (by omega), if_pos (by omega), if_pos (by omega), if_pos (by omega), if_pos (by omega), if_pos (by omega), if_neg (by omega)]; omega
  replace h0 : 131072 ≤ x ∧ x ≤ 4294967295 := by omega
  clear h
  refine ⟨fun h => ?_, fun h => ?_⟩
  rotate_left
  · have h2 : 131072 ≤ x := (by omega); simp only [ones, onesN]; rw [if_pos (by omega), if_pos (by omega), if_pos (by omega), if_pos (by omega), if_pos (by omega), if_pos (by omega), if_pos (by omega), if_pos (by omega), if_pos (by omega), if_pos (by omega), if_pos (by omega), if_pos (by omega), if_pos (by omega), if_pos (by omega), if_pos (by omega), if_pos (by omega), if_pos (by omega), if_pos (by omega), if_neg (by omega)]; omega
  replace h0 : 262144 ≤ x ∧ x ≤ 4294967295 := by omega
  clear h
  refine ⟨fun h => ?_, fun h => ?_⟩
  rotate_left
  · have h2 : 262144 ≤ x := (by omega); simp only [ones, onesN]; rw [if_pos (by omega), if_pos (by omega), if_pos (by omega), if_pos (by omega), if_pos (by omega), if_pos (by omega), if_pos (by omega), if_pos (by omega), if_pos (by omega), if_pos (by omega), if_pos (by omega), if_pos (by omega), if_pos (by omega), if_pos (by omega), if_pos (by omega), if_pos (by omega), if_pos (by omega), if_pos (by omega), if_pos (by omega), if_neg (by omega)]; omega
  replace h0 : 524288 ≤ x ∧ x ≤ 4294967295 := by omega
  clear h
  refine ⟨fun h => ?_, fun h => ?_⟩
  rotate_left
  · have h2 : 524288 ≤ x := (by omega); simp only [ones, onesN]; rw [if_pos (by omega), if_pos (by omega), if_pos (by omega), if_pos (by omega), if_pos (by omega), if_pos (by omega), if_pos (by omega), if_pos (by omega), if_pos (by omega), if_pos (by omega), if_pos (by omega), if_pos (by omega), if_pos (by omega), if_pos (by omega), if_pos (by omega), if_pos (by omega), if_pos (by omega), if_pos (by omega), if_pos (by omega), if_pos (by omega), if_neg (by omega)]; omega
  replace h0 : 1048576 ≤ x ∧ x ≤ 4294967295 := by omega
  clear h
  refine ⟨fun h => ?_, fun h => ?_⟩
  rotate_left
  · have h2 : 1048576 ≤ x := (by omega); simp only [ones, onesN]; rw [if_pos (by omega), if_pos (by omega), if_pos (by omega), if_pos (by omega), if_pos (by omega), if_pos (by omega), if_pos (by omega), if_pos (by omega), if_pos (by omega), if_pos (by omega), if_pos (by omega), if_pos (by omega), if_pos (by omega), if_pos (by omega), if_pos (by omega), if_pos (by omega), if_pos (by omega), if_pos (by omega), if_pos (by omega), if_pos (by omega), if_pos (by omega), if_neg (by omega)]; omega
  replace h0 : 2097152 ≤ x ∧ x ≤ 4294967295 := by omega
  clear h
  refine ⟨fun h => ?_, fun h => ?_⟩
  rotate_left
  · have h2 : 2097152 ≤ x := (by omega); simp only [ones, onesN]; rw [if_pos (by omega), if_pos (by omega), if_pos (by omega), if_pos (by omega), if_pos (by omega), if_pos (by omega), if_pos (by omega), if_pos (by omega), if_pos (by omega), if_pos (by omega), if_pos (by omega), if_pos (by omega), if_pos (by omega), if_pos (by omega), if_pos (by omega), if_pos (by omega), if_pos (by omega), if_pos (by omega), if_pos (by omega), if_pos (by omega), if_pos (by omega), if_pos (by omega), if_neg (by omega)]; omega
  replace h0 : 4194304 ≤ x ∧ x ≤ 4294967295 := by omega
  clear h
  refine ⟨fun h => ?_, fun h => ?_⟩
  rotate_left
  · have h2 : 4194304 ≤ x := (by omega); simp only [ones, onesN]; rw [if_pos (by omega), if_pos (by omega), if_pos (by omega), if_pos (by omega), if_pos (by omega), if_pos (by omega), if_pos (by omega), if_pos (by omega), if_pos (by omega), if_pos (by omega), if_pos (by omega), if_pos (by omega), if_pos (by omega), if_pos (by omega), if_pos (by omega), if_pos (by omega), if_pos (by omega), if_pos (by omega), if_pos (by omega), if_pos (by omega), if_pos (by omega), if_pos (by omega), if_pos (by omega), if_neg (by omega)]; omega
  replace h0 : 8388608 ≤ x ∧ x ≤ 4294967295 := by omega
  clear h
  refine ⟨fun h => ?_, fun h => ?_⟩
  rotate_left
  · have h2 : 8388608 ≤ x := (by omega); simp only [ones, onesN]; rw [if_pos (by omega), if_pos (by omega), if_pos (by omega), if_pos (by omega), if_pos (by omega), if_pos (by omega), if_pos (by omega), if_pos (by omega), if_pos (by omega), if_pos (by omega), if_pos (by omega), if_pos (by omega), if_pos (by omega), if_pos (by omega), if_pos (by omega), if_pos (by omega), if_pos (by omega), if_pos (by omega), if_pos (by omega), if_pos (by omega), if_pos (by omega), if_pos (by omega), if_pos (by omega), if_pos (by omega), if_neg (by omega)]; omega
  replace h0 : 16777216 ≤ x ∧ x ≤ 4294967295 := by omega
  clear h
  refine ⟨fun h => ?_, fun h => ?_⟩
  rotate_left
  · have h2 : 16777216 ≤ x := (by omega); simp only [ones, onesN]; rw [if_pos (by omega), if_pos (by omega), if_pos (by omega), if_pos (by omega), if_pos (by omega), if_pos (by omega), if_pos (by omega), if_pos (by omega), if_pos (by omega), if_pos (by omega), if_pos (by omega), if_pos (by omega), if_pos (by omega), if_pos (by omega), if_pos (by omega), if_pos (by omega), if_pos (by omega), if_pos (by omega), if_pos (by omega), if_pos (by omega), if_pos (by omega), if_pos (by omega), if_pos (by omega), if_pos (by omega), if_pos (by omega), if_neg (by omega)]; omega
  replace h0 : 33554432 ≤ x ∧ x ≤ 4294967295 := by omega
  clear h
  refine ⟨fun h => ?_, fun h => ?_⟩
  rotate_left
  · have h2 : 33554432 ≤ x := (by omega); simp only [ones, onesN]; rw [if_pos (by omega), if_pos (by omega), if_pos (by omega), if_pos (by omega), if_pos (by omega), if_pos (by omega), if_pos (by omega), if_pos (by omega), if_pos (by omega), if_pos (by omega), if_pos (by omega), if_pos (by omega), if_pos (by omega), if_pos (by omega), if_pos (by omega), if_pos (by omega), if_pos (by omega), if_pos (by omega), if_pos (by omega), if_pos (by omega), if_pos (by omega), if_pos (by omega), if_pos (by omega), if_pos (by omega), if_pos (by omega), if_pos (by omega), if_neg (by omega)]; omega
  replace h0 : 67108864 ≤ x ∧ x ≤ 4294967295 := by omega
  clear h
  refine ⟨fun h => ?_, fun h => ?_⟩
  rotate_left
  · have h2 : 67108864 ≤ x := (by omega); simp only [ones, onesN]; rw [if_pos (by omega), if_pos (by omega), if_pos (by omega), if_pos (by omega), if_pos (by omega), if_pos (by omega), if_pos (by omega), if_pos (by omega), if_pos (by omega), if_pos (by omega), if_pos (by omega), if_pos (by omega), if_pos (by omega), if_pos (by omega), if_pos (by omega), if_pos (by omega), if_pos (by omega), if_pos (by omega), if_pos (by omega), if_pos (by omega), if_pos (by omega), if_pos (by omega), if_pos (by omega), if_pos (by omega), if_pos (by omega), if_pos (by omega), if_pos (by omega), if_neg (by omega)]; omega
  replace h0 : 134217728 ≤ x ∧ x ≤ 4294967295 := by omega
  clear h
  refine ⟨fun h => ?_, fun h => ?_⟩
  rotate_left
  · have h2 : 134217728 ≤ x := (by omega); simp only [ones, onesN]; rw [if_pos (by omega), if_pos (by omega), if_pos (by omega), if_pos (by omega), if_pos (by omega), if_pos (by omega), if_pos (by omega), if_pos (by omega), if_pos (by omega), if_pos (by omega), if_pos (by omega), if_pos (by omega), if_pos (by omega), if_pos (by omega), if_pos (by omega), if_pos (by omega), if_pos (by omega), if_pos (by omega), if_pos (by omega), if_pos (by omega), if_pos (by omega), if_pos (by omega), if_pos (by omega), if_pos (by omega), if_pos (by omega), if_pos (by omega), if_pos (by omega), if_pos (by omega), if_neg (by omega)]; omega
  replace h0 : 268435456 ≤ x ∧ x ≤ 4294967295 := by omega
  clear h
  refine ⟨fun h => ?_, fun h => ?_⟩
  rotate_left
  · have h2 : 268435456 ≤ x := (by omega); simp only [ones, onesN]; rw [if_pos (by omega), if_pos (by omega), if_pos (by omega), if_pos (by omega), if_pos (by omega), if_pos (by omega), if_pos (by omega), if_pos (by omega), if_pos (by omega), if_pos (by omega), if_pos (by omega), if_pos (by omega), if_pos (by omega), if_pos (by omega), if_pos (by omega), if_pos (by omega), if_pos (by omega), if_pos (by omega), if_pos (by omega), if_pos (by omega), if_pos (by omega), if_pos (by omega), if_pos (by omega), if_pos (by omega), if_pos (by omega), if_pos (by omega), if_pos (by omega), if_pos (by omega), if_pos (by omega), if_neg (by omega)]; omega
  replace h0 : 536870912 ≤ x ∧ x ≤ 4294967295 := by omega
  clear h
  refine ⟨fun h => ?_, fun h => ?_⟩
  rotate_left
  · have h2 : 536870912 ≤ x := (by omega); simp only [ones, onesN]; rw [if_pos (by omega), if_pos (by omega), if_pos (by omega), if_pos (by omega), if_pos (by omega), if_pos (by omega), if_pos (by omega), if_pos (by omega), if_pos (by omega), if_pos (by omega), if_pos (by omega), if_pos (by omega), if_pos (by omega), if_pos (by omega), if_pos (by omega), if_pos (by omega), if_pos (by omega), if_pos (by omega), if_pos (by omega), if_pos (by omega), if_pos (by omega), if_pos (by omega), if_pos (by omega), if_pos (by omega), if_pos (by omega), if_pos (by omega), if_pos (by omega), if_pos (by omega), if_pos (by omega), if_pos (by omega), if_neg (by omega)]; omega
  replace h0 : 1073741824 ≤ x ∧ x ≤ 4294967295 := by omega
  clear h
  refine ⟨fun h => ?_, fun h => ?_⟩
  rotate_left
  · have h2 : 1073741824 ≤ x := (by omega); simp only [ones, onesN]; rw [if_pos (by omega), if_pos (by omega), if_pos (by omega), if_pos (by omega), if_pos (by omega), if_pos (by omega), if_pos (by omega), if_pos (by omega), if_pos (by omega), if_pos (by omega), if_pos (by omega), if_pos (by omega), if_pos (by omega), if_pos (by omega), if_pos (by omega), if_pos (by omega), if_pos (by omega), if_pos (by omega), if_pos (by omega), if_pos (by omega), if_pos (by omega), if_pos (by omega), if_pos (by omega), if_pos (by omega), if_pos (by omega), if_pos (by omega), if_pos (by omega), if_pos (by omega), if_pos (by omega), if_pos (by omega), if_pos (by omega), if_neg (by omega)]; omega
  replace h0 : 2147483648 ≤ x ∧ x ≤ 4294967295 := by omega
  clear h
  simp only [ones, onesN]; rw [if_pos (by omega), if_pos (by omega), if_pos (by omega), if_pos (by omega), if_pos (by omega), if_pos (by omega), if_pos (by omega), if_pos (by omega), if_pos (by omega), if_pos (by omega), if_pos (by omega), if_pos (by omega), if_pos (by omega), if_pos (by omega), if_pos (by omega), if_pos (by omega), if_pos (by omega), if_pos (by omega), if_pos (by omega), if_pos (by omega), if_pos (by omega), if_pos (by omega), if_pos (by omega), if_pos (by omega), if_pos (by omega), if_pos (by omega), if_pos (by omega), if_pos (by omega), if_pos (by omega), if_pos (by omega), if_pos (by omega), if_pos (by omega)]; omega

theorem ones53_ok : onesC.Ok Try.prog CI 53 := PC.of_tree (fun _ _ _ _ h => by cases h) (by kernel_rfl) ones53_ev (fun ρ _ h => fits1 h) ones53_holds

def power54T : NT :=
 (.ite (.lt (.lit 0) (.var 0))
 (.ite (.lt (.lit 1) (.var 0))
 (.ite (.lt (.lit 2) (.var 0))
 (.ite (.lt (.lit 3) (.var 0))
 (.ite (.lt (.lit 4) (.var 0))
 (.ite (.lt (.lit 5) (.var 0))
 (.ite (.lt (.lit 6) (.var 0))
 (.ite (.lt (.lit 7) (.var 0))
 (.ite (.lt (.lit 8) (.var 0))
 (.ite (.lt (.lit 9) (.var 0))
 (.ite (.lt (.lit 10) (.var 0))
 (.ite (.lt (.lit 11) (.var 0))
 (.ite (.lt (.lit 12) (.var 0))
 (.ite (.lt (.lit 13) (.var 0))
 (.ite (.lt (.lit 14) (.var 0))
 (.ite (.lt (.lit 15) (.var 0))
 (.ite (.lt (.lit 16) (.var 0))
 (.ite (.lt (.lit 17) (.var 0))
 (.ite (.lt (.lit 18) (.var 0))
 (.ite (.lt (.lit 19) (.var 0))
 (.ite (.lt (.lit 20) (.var 0))
 (.ite (.lt (.lit 21) (.var 0))
 (.ite (.lt (.lit 22) (.var 0))
 (.ite (.lt (.lit 23) (.var 0))
 (.ite (.lt (.lit 24) (.var 0))
 (.ite (.lt (.lit 25) (.var 0))
 (.ite (.lt (.lit 26) (.var 0))
 (.ite (.lt (.lit 27) (.var 0))
 (.ite (.lt (.lit 28) (.var 0))
 (.ite (.lt (.lit 29) (.var 0))
 (.ite (.lt (.lit 30) (.var 0))
 (.goal (.eq (.lit 2147483648) (.app (.app 72 (.cons (.var 0) .nil)))))
 (.goal (.eq (.lit 1073741824) (.app (.app 72 (.cons (.var 0) .nil))))))
 (.goal (.eq (.lit 536870912) (.app (.app 72 (.cons (.var 0) .nil))))))
 (.goal (.eq (.lit 268435456) (.app (.app 72 (.cons (.var 0) .nil))))))
 (.goal (.eq (.lit 134217728) (.app (.app 72 (.cons (.var 0) .nil))))))
 (.goal (.eq (.lit 67108864) (.app (.app 72 (.cons (.var 0) .nil))))))
 (.goal (.eq (.lit 33554432) (.app (.app 72 (.cons (.var 0) .nil))))))
 (.goal (.eq (.lit 16777216) (.app (.app 72 (.cons (.var 0) .nil))))))
 (.goal (.eq (.lit 8388608) (.app (.app 72 (.cons (.var 0) .nil))))))
 (.goal (.eq (.lit 4194304) (.app (.app 72 (.cons (.var 0) .nil))))))
 (.goal (.eq (.lit 2097152) (.app (.app 72 (.cons (.var 0) .nil))))))
 (.goal (.eq (.lit 1048576) (.app (.app 72 (.cons (.var 0) .nil))))))
 (.goal (.eq (.lit 524288) (.app (.app 72 (.cons (.var 0) .nil))))))
 (.goal (.eq (.lit 262144) (.app (.app 72 (.cons (.var 0) .nil))))))
 (.goal (.eq (.lit 131072) (.app (.app 72 (.cons (.var 0) .nil))))))
 (.goal (.eq (.lit 65536) (.app (.app 72 (.cons (.var 0) .nil))))))
 (.goal (.eq (.lit 32768) (.app (.app 72 (.cons (.var 0) .nil))))))
 (.goal (.eq (.lit 16384) (.app (.app 72 (.cons (.var 0) .nil))))))
 (.goal (.eq (.lit 8192) (.app (.app 72 (.cons (.var 0) .nil))))))
 (.goal (.eq (.lit 4096) (.app (.app 72 (.cons (.var 0) .nil))))))
 (.goal (.eq (.lit 2048) (.app (.app 72 (.cons (.var 0) .nil))))))
 (.goal (.eq (.lit 1024) (.app (.app 72 (.cons (.var 0) .nil))))))
 (.goal (.eq (.lit 512) (.app (.app 72 (.cons (.var 0) .nil))))))
 (.goal (.eq (.lit 256) (.app (.app 72 (.cons (.var 0) .nil))))))
 (.goal (.eq (.lit 128) (.app (.app 72 (.cons (.var 0) .nil))))))
 (.goal (.eq (.lit 64) (.app (.app 72 (.cons (.var 0) .nil))))))
 (.goal (.eq (.lit 32) (.app (.app 72 (.cons (.var 0) .nil))))))
 (.goal (.eq (.lit 16) (.app (.app 72 (.cons (.var 0) .nil))))))
 (.goal (.eq (.lit 8) (.app (.app 72 (.cons (.var 0) .nil))))))
 (.goal (.eq (.lit 4) (.app (.app 72 (.cons (.var 0) .nil))))))
 (.goal (.eq (.lit 2) (.app (.app 72 (.cons (.var 0) .nil))))))
 (.goal (.eq (.lit 1) (.app (.app 72 (.cons (.var 0) .nil))))))
set_option maxHeartbeats 8000000 in
theorem power54_ev : finT [(0, 31)] (chk powerC.post (evFn Try.prog noC 40 30 54 (symA 0 powerC.shs) [] powerC.pre)) = power54T := by kernel_rfl
set_option maxHeartbeats 16000000 in
theorem power54_holds (ρ : Env) (hI : ρ.I = CI) (hpre : ∀ e ∈ powerC.pre, e.denB ρ = true) (hf : ρ.Fits [(0, 31)]) : power54T.Holds ρ := by
  have h0 := hf 0 0 31 rfl
  simp only [power54T, NT.Holds, N.denP, N.den, E.den, E.denL, appI, hI, den_power]
  generalize ρ.i 0 = x at *
  clear hpre hf hI
  refine ⟨fun h => ?_, fun h => ?_⟩
  rotate_left
  · obtain rfl : x = 0 := by omega
    decide
  replace h0 : 1 ≤ x ∧ x ≤ 31 := by omega
  clear h
  refine ⟨fun h => ?_, fun h => ?_⟩
  rotate_left
  · obtain rfl : x = 1 := by omega
    decide
  replace h0 : 2 ≤ x ∧ x ≤ 31 := by omega
  clear h
  refine ⟨fun h => ?_, fun h => ?_⟩
  rotate_left
  · obtain rfl : x = 2 := by omega
    decide
  replace h0 : 3 ≤ x ∧ x ≤ 31 := by omega
  clear h
  refine ⟨fun h => ?_, fun h => ?_⟩
  rotate_left
  · obtain rfl : x = 3 := by omega
    decide
  replace h0 : 4 ≤ x ∧ x ≤ 31 := by omega
  clear h
  refine ⟨fun h => ?_, fun h => ?_⟩
  rotate_left
  · obtain rfl : x = 4 := by omega
    decide
  replace h0 : 5 ≤ x ∧ x ≤ 31 := by omega
  clear h
  refine ⟨fun h => ?_, fun h => ?_⟩
  rotate_left
  · obtain rfl : x = 5 := by omega
    decide
  replace h0 : 6 ≤ x ∧ x ≤ 31 := by omega
  clear h
  refine ⟨fun h => ?_, fun h => ?_⟩
  rotate_left
  · obtain rfl : x = 6 := by omega
    decide
  replace h0 : 7 ≤ x ∧ x ≤ 31 := by omega
  clear h
  refine ⟨fun h => ?_, fun h => ?_⟩
  rotate_left
  · obtain rfl : x = 7 := by omega
    decide
  replace h0 : 8 ≤ x ∧ x ≤ 31 := by omega
  clear h
  refine ⟨fun h => ?_, fun h => ?_⟩
  rotate_left
  · obtain rfl : x = 8 := by omega
    decide
  replace h0 : 9 ≤ x ∧ x ≤ 31 := by omega
  clear h
  refine ⟨fun h => ?_, fun h => ?_⟩
  rotate_left
  · obtain rfl : x = 9 := by omega
    decide
  replace h0 : 10 ≤ x ∧ x ≤ 31 := by omega
  clear h
  refine ⟨fun h => ?_, fun h => ?_⟩
  rotate_left
  · obtain rfl : x = 10 := by omega
    decide
  replace h0 : 11 ≤ x ∧ x ≤ 31 := by omega
  clear h
  refine ⟨fun h => ?_, fun h => ?_⟩
  rotate_left
  · obtain rfl : x = 11 := by omega
    decide
  replace h0 : 12 ≤ x ∧ x ≤ 31 := by omega
  clear h
  refine ⟨fun h => ?_, fun h => ?_⟩
  rotate_left
  · obtain rfl : x = 12 := by omega
    decide
  replace h0 : 13 ≤ x ∧ x ≤ 31 := by omega
  clear h
  refine ⟨fun h => ?_, fun h => ?_⟩
  rotate_left
  · obtain rfl : x = 13 := by omega
    decide
  replace h0 : 14 ≤ x ∧ x ≤ 31 := by omega
  clear h
  refine ⟨fun h => ?_, fun h => ?_⟩
  rotate_left
  · obtain rfl : x = 14 := by omega
    decide
  replace h0 : 15 ≤ x ∧ x ≤ 31 := by omega
  clear h
  refine ⟨fun h => ?_, fun h => ?_⟩
  rotate_left
  · obtain rfl : x = 15 := by omega
    decide
  replace h0 : 16 ≤ x ∧ x ≤ 31 := by omega
  clear h
  refine ⟨fun h => ?_, fun h => ?_⟩
  rotate_left
  · obtain rfl : x = 16 := by omega
    decide
  replace h0 : 17 ≤ x ∧ x ≤ 31 := by omega
  clear h
  refine ⟨fun h => ?_, fun h => ?_⟩
  rotate_left
  · obtain rfl : x = 17 := by omega
    decide
  replace h0 : 18 ≤ x ∧ x ≤ 31 := by omega
  clear h
  refine ⟨fun h => ?_, fun h => ?_⟩
  rotate_left
  · obtain rfl : x = 18 := by omega
    decide
  replace h0 : 19 ≤ x ∧ x ≤ 31 := by omega
  clear h
  refine ⟨fun h => ?_, fun h => ?_⟩
  rotate_left
  · obtain rfl : x = 19 := by omega
    decide
  replace h0 : 20 ≤ x ∧ x ≤ 31 := by omega
  clear h
  refine ⟨fun h => ?_, fun h => ?_⟩
  rotate_left
  · obtain rfl : x = 20 := by omega
    decide
  replace h0 : 21 ≤ x ∧ x ≤ 31 := by omega
  clear h
  refine ⟨fun h => ?_, fun h => ?_⟩
  rotate_left
  · obtain rfl : x = 21 := by omega
    decide
  replace h0 : 22 ≤ x ∧ x ≤ 31 := by omega
  clear h
  refine ⟨fun h => ?_, fun h => ?_⟩
  rotate_left
  · obtain rfl : x = 22 := by omega
    decide
  replace h0 : 23 ≤ x ∧ x ≤ 31 := by omega
  clear h
  refine ⟨fun h => ?_, fun h => ?_⟩
  rotate_left
  · obtain rfl : x = 23 := by omega
    decide
  replace h0 : 24 ≤ x ∧ x ≤ 31 := by omega
  clear h
  refine ⟨fun h => ?_, fun h => ?_⟩
  rotate_left
  · obtain rfl : x = 24 := by omega
    decide
  replace h0 : 25 ≤ x ∧ x ≤ 31 := by omega
  clear h
  refine ⟨fun h => ?_, fun h => ?_⟩
  rotate_left
  · obtain rfl : x = 25 := by omega
    decide
  replace h0 : 26 ≤ x ∧ x ≤ 31 := by omega
  clear h
  refine ⟨fun h => ?_, fun h => ?_⟩
  rotate_left
  · obtain rfl : x = 26 := by omega
    decide
  replace h0 : 27 ≤ x ∧ x ≤ 31 := by omega
  clear h
  refine ⟨fun h => ?_, fun h => ?_⟩
  rotate_left
  · obtain rfl : x = 27 := by omega
    decide
  replace h0 : 28 ≤ x ∧ x ≤ 31 := by omega
  clear h
  refine ⟨fun h => ?_, fun h => ?_⟩
  rotate_left
  · obtain rfl : x = 28 := by omega
    decide
  replace h0 : 29 ≤ x ∧ x ≤ 31 := by omega
  clear h
  refine ⟨fun h => ?_, fun h => ?_⟩
  rotate_left
  · obtain rfl : x = 29 := by omega
    decide
  replace h0 : 30 ≤ x ∧ x ≤ 31 := by omega
  clear h
  refine ⟨fun h => ?_, fun h => ?_⟩
  rotate_left
  · obtain rfl : x = 30 := by omega
    decide
  replace h0 : 31 ≤ x ∧ x ≤ 31 := by omega
  clear h
  obtain rfl : x = 31 := by omega
  decide

theorem power54_ok : powerC.Ok Try.prog CI 54 := PC.of_tree (fun _ _ _ _ h => by cases h) (by kernel_rfl) power54_ev (fun ρ _ h => fits1 h) power54_holds

end Go.Proofs.Ytpamdmikdnoplaa