/- Ranges that are cut from both sides. -/
import Derived.Test.YtpamdmikdnoplaaCkCon
import Derived.Test.YtpamdmikdnoplaaCkMono
namespace Go.Proofs.Ytpamdmikdnoplaa
open Go.Sx Go.RowKit Go.Ck
set_option linter.unusedVariables false
def cutSE (s : Nat) : E := .ite (.ite (.bvar s) (.lit 1) (.bvar s)) (.lit 1) (.lit 0)
def cutAE (l g u : Nat) : E := .wrap .u32 (.ite (.lt (.bin .add .i64 (.wrap .i64 (.var l)) (.wrap .i64 (.var u))) (.wrap .i64 (.var g))) (.bin .add .i64 (.wrap .i64 (.var l)) (.wrap .i64 (.var u))) (.wrap .i64 (.var g)))
def cutLE (s l g u : Nat) : E := .ite (.bvar s) (cutAE l g u) (.var l)
def cutGE (s l g u d : Nat) : E := .ite (.bvar s) (.wrap .u32 (.ite (.lt (.wrap .i64 (cutAE l g u)) (.bin .sub .i64 (.wrap .i64 (.var g)) (.wrap .i64 (.var d)))) (.bin .sub .i64 (.wrap .i64 (.var g)) (.wrap .i64 (.var d))) (.wrap .i64 (cutAE l g u)))) (.var g)
theorem cut_ok {ρ : Env} {s l g u d : Nat} (hl : 0 ≤ ρ.i l) (hg : ρ.i g ≤ 4294967295) (hlg : ρ.i l ≤ ρ.i g) (hu : 0 ≤ ρ.i u ∧ ρ.i u ≤ 4294967295) (hd : 0 ≤ ρ.i d ∧ ρ.i d ≤ 4294967295) (hs : ρ.b s = false → ρ.i l = 0 ∧ ρ.i g = 0) :
    Cut ⟨(cutSE s).den ρ, (cutLE s l g u).den ρ, (cutGE s l g u d).den ρ⟩ ⟨(E.bvar s).den ρ, ρ.i l, ρ.i g⟩ ∧ RightR ((cutSE s).den ρ) ((cutLE s l g u).den ρ) ((cutGE s l g u d).den ρ) := by
  have es : (cutSE s).den ρ = if ρ.b s = true then 1 else 0 := by
    unfold cutSE
    rcases h : ρ.b s with _ | _ <;> simp [E.den, E.denB, h]
  have ea : (cutAE l g u).den ρ = if ρ.i l + ρ.i u < ρ.i g then ρ.i l + ρ.i u else ρ.i g := by
    unfold cutAE
    have w1 := fits_i64 (x := ρ.i l) (by omega) (by omega)
    have w2 := fits_i64 (x := ρ.i u) (by omega) (by omega)
    have w3 := fits_i64 (x := ρ.i g) (by omega) (by omega)
    have w4 := fits_i64 (x := ρ.i l + ρ.i u) (by omega) (by omega)
    simp only [E.den, E.denB, arith, w1, w2, w3, w4]
    by_cases h : ρ.i l + ρ.i u < ρ.i g
    · simp only [h, decide_true, if_true]
      exact fits_u32 (by omega) (by omega)
    · simp only [h, decide_false, if_false, Bool.false_eq_true]
      exact fits_u32 (by omega) (by omega)
  generalize hA : (cutAE l g u).den ρ = A at *
  have hA2 : 0 ≤ A ∧ ρ.i l ≤ A ∧ A ≤ ρ.i g := by rw [ea]; split <;> omega
  have eg : (cutGE s l g u d).den ρ = if ρ.b s = true then (if A < ρ.i g - ρ.i d then ρ.i g - ρ.i d else A) else ρ.i g := by
    unfold cutGE
    have w1 := fits_i64 (x := A) (by omega) (by omega)
    have w2 := fits_i64 (x := ρ.i d) (by omega) (by omega)
    have w3 := fits_i64 (x := ρ.i g) (by omega) (by omega)
    have w4 := fits_i64 (x := ρ.i g - ρ.i d) (by omega) (by omega)
    simp only [E.den, E.denB, arith, hA, w1, w2, w3, w4]
    cases ρ.b s
    · rfl
    · simp only [if_true]
      by_cases h : A < ρ.i g - ρ.i d
      · simp only [h, decide_true, if_true]
        exact fits_u32 (by omega) (by omega)
      · simp only [h, decide_false, if_false, Bool.false_eq_true]
        exact fits_u32 (by omega) (by omega)
  have el : (cutLE s l g u).den ρ = if ρ.b s = true then A else ρ.i l := by
    unfold cutLE
    simp only [E.den, E.denB, hA]
  rw [es, el, eg]
  cases hb : ρ.b s
  · obtain ⟨h1, h2⟩ := hs hb
    exact ⟨⟨by simp [E.den, hb], ⟨by simp, by simp⟩, by simpa using hlg, hl, hg⟩, by simp [h1, h2, RightR]⟩
  · refine ⟨⟨by simp [E.den, hb], ⟨by simpa using hA2.2.1, ?_⟩, ?_, hl, hg⟩, ?_⟩
    · simp only [if_true]; split <;> omega
    · simp only [if_true]; split <;> omega
    · simp only [if_true]
      refine ⟨by split <;> omega, fun h => absurd h (by decide)⟩
theorem bi_100 (l : List Int) : behI 100 l = (regsO (decR l) (behL l).next 0).l := rfl
theorem bi_110 (l : List Int) : behI 110 l = (regsO (decR l) (behL l).next 0).g := rfl
theorem bi_120 (l : List Int) : behI 120 l = (regsO (decR l) (behL l).jumped 0).l := rfl
theorem bi_130 (l : List Int) : behI 130 l = (regsO (decR l) (behL l).jumped 0).g := rfl
theorem bi_140 (l : List Int) : behI 140 l = (regsO (decR l) (behL l).next 0).s := rfl
theorem bi_150 (l : List Int) : behI 150 l = (regsO (decR l) (behL l).jumped 0).s := rfl
theorem bi_101 (l : List Int) : behI 101 l = (regsO (decR l) (behL l).next 1).l := rfl
theorem bi_111 (l : List Int) : behI 111 l = (regsO (decR l) (behL l).next 1).g := rfl
theorem bi_121 (l : List Int) : behI 121 l = (regsO (decR l) (behL l).jumped 1).l := rfl
theorem bi_131 (l : List Int) : behI 131 l = (regsO (decR l) (behL l).jumped 1).g := rfl
theorem bi_141 (l : List Int) : behI 141 l = (regsO (decR l) (behL l).next 1).s := rfl
theorem bi_151 (l : List Int) : behI 151 l = (regsO (decR l) (behL l).jumped 1).s := rfl
theorem bi_102 (l : List Int) : behI 102 l = (regsO (decR l) (behL l).next 2).l := rfl
theorem bi_112 (l : List Int) : behI 112 l = (regsO (decR l) (behL l).next 2).g := rfl
theorem bi_122 (l : List Int) : behI 122 l = (regsO (decR l) (behL l).jumped 2).l := rfl
theorem bi_132 (l : List Int) : behI 132 l = (regsO (decR l) (behL l).jumped 2).g := rfl
theorem bi_142 (l : List Int) : behI 142 l = (regsO (decR l) (behL l).next 2).s := rfl
theorem bi_152 (l : List Int) : behI 152 l = (regsO (decR l) (behL l).jumped 2).s := rfl
theorem bi_103 (l : List Int) : behI 103 l = (regsO (decR l) (behL l).next 3).l := rfl
theorem bi_113 (l : List Int) : behI 113 l = (regsO (decR l) (behL l).next 3).g := rfl
theorem bi_123 (l : List Int) : behI 123 l = (regsO (decR l) (behL l).jumped 3).l := rfl
theorem bi_133 (l : List Int) : behI 133 l = (regsO (decR l) (behL l).jumped 3).g := rfl
theorem bi_143 (l : List Int) : behI 143 l = (regsO (decR l) (behL l).next 3).s := rfl
theorem bi_153 (l : List Int) : behI 153 l = (regsO (decR l) (behL l).jumped 3).s := rfl
theorem bi_104 (l : List Int) : behI 104 l = (regsO (decR l) (behL l).next 4).l := rfl
theorem bi_114 (l : List Int) : behI 114 l = (regsO (decR l) (behL l).next 4).g := rfl
theorem bi_124 (l : List Int) : behI 124 l = (regsO (decR l) (behL l).jumped 4).l := rfl
theorem bi_134 (l : List Int) : behI 134 l = (regsO (decR l) (behL l).jumped 4).g := rfl
theorem bi_144 (l : List Int) : behI 144 l = (regsO (decR l) (behL l).next 4).s := rfl
theorem bi_154 (l : List Int) : behI 154 l = (regsO (decR l) (behL l).jumped 4).s := rfl
theorem bi_105 (l : List Int) : behI 105 l = (regsO (decR l) (behL l).next 5).l := rfl
theorem bi_115 (l : List Int) : behI 115 l = (regsO (decR l) (behL l).next 5).g := rfl
theorem bi_125 (l : List Int) : behI 125 l = (regsO (decR l) (behL l).jumped 5).l := rfl
theorem bi_135 (l : List Int) : behI 135 l = (regsO (decR l) (behL l).jumped 5).g := rfl
theorem bi_145 (l : List Int) : behI 145 l = (regsO (decR l) (behL l).next 5).s := rfl
theorem bi_155 (l : List Int) : behI 155 l = (regsO (decR l) (behL l).jumped 5).s := rfl
theorem bi_106 (l : List Int) : behI 106 l = (regsO (decR l) (behL l).next 6).l := rfl
theorem bi_116 (l : List Int) : behI 116 l = (regsO (decR l) (behL l).next 6).g := rfl
theorem bi_126 (l : List Int) : behI 126 l = (regsO (decR l) (behL l).jumped 6).l := rfl
theorem bi_136 (l : List Int) : behI 136 l = (regsO (decR l) (behL l).jumped 6).g := rfl
theorem bi_146 (l : List Int) : behI 146 l = (regsO (decR l) (behL l).next 6).s := rfl
theorem bi_156 (l : List Int) : behI 156 l = (regsO (decR l) (behL l).jumped 6).s := rfl
theorem bi_107 (l : List Int) : behI 107 l = (regsO (decR l) (behL l).next 7).l := rfl
theorem bi_117 (l : List Int) : behI 117 l = (regsO (decR l) (behL l).next 7).g := rfl
theorem bi_127 (l : List Int) : behI 127 l = (regsO (decR l) (behL l).jumped 7).l := rfl
theorem bi_137 (l : List Int) : behI 137 l = (regsO (decR l) (behL l).jumped 7).g := rfl
theorem bi_147 (l : List Int) : behI 147 l = (regsO (decR l) (behL l).next 7).s := rfl
theorem bi_157 (l : List Int) : behI 157 l = (regsO (decR l) (behL l).jumped 7).s := rfl
theorem bi_108 (l : List Int) : behI 108 l = (regsO (decR l) (behL l).next 8).l := rfl
theorem bi_118 (l : List Int) : behI 118 l = (regsO (decR l) (behL l).next 8).g := rfl
theorem bi_128 (l : List Int) : behI 128 l = (regsO (decR l) (behL l).jumped 8).l := rfl
theorem bi_138 (l : List Int) : behI 138 l = (regsO (decR l) (behL l).jumped 8).g := rfl
theorem bi_148 (l : List Int) : behI 148 l = (regsO (decR l) (behL l).next 8).s := rfl
theorem bi_158 (l : List Int) : behI 158 l = (regsO (decR l) (behL l).jumped 8).s := rfl
theorem bi_109 (l : List Int) : behI 109 l = (regsO (decR l) (behL l).next 9).l := rfl
theorem bi_119 (l : List Int) : behI 119 l = (regsO (decR l) (behL l).next 9).g := rfl
theorem bi_129 (l : List Int) : behI 129 l = (regsO (decR l) (behL l).jumped 9).l := rfl
theorem bi_139 (l : List Int) : behI 139 l = (regsO (decR l) (behL l).jumped 9).g := rfl
theorem bi_149 (l : List Int) : behI 149 l = (regsO (decR l) (behL l).next 9).s := rfl
theorem bi_159 (l : List Int) : behI 159 l = (regsO (decR l) (behL l).jumped 9).s := rfl
theorem bi_160 (l : List Int) : behI 160 l = if (behL l).next.isSome then 1 else 0 := rfl
theorem bi_161 (l : List Int) : behI 161 l = if (behL l).jumped.isSome then 1 else 0 := rfl
theorem bi_162 (l : List Int) : behI 162 l = (behL l).err := rfl
theorem wi_some {r2 r1 : Int → Rng} {o2 o1 : Option Puts} (h : WiO r2 r1 o2 o1) (hs : o2.isSome = true) : o1.isSome = true ∧ ∀ j : Int, 0 ≤ j → j < 10 → Wi (regsO r2 o2 j) (regsO r1 o1 j) := by
  cases o2 with
  | none => cases hs
  | some p2 => cases o1 with
    | none => exact h.elim
    | some p1 => exact ⟨rfl, h⟩
theorem one_ite (b : Bool) : (((if b = true then (1 : Int) else 0) != 0) = true) ↔ b = true := by cases b <;> simp
/-- What the law asks of one register. -/
theorem ask {x y : Rng} (h : Wi x y) : ¬ (((y.s != 0) = true) ∧ ((¬ ((x.s != 0) = true) ∨ x.l < y.l) ∨ y.g < x.g)) := by
  rintro ⟨h1, h2⟩
  have := h (by simpa using h1)
  rcases h2 with (h2 | h2) | h2
  · exact h2 (by simpa using this.1)
  · omega
  · omega
end Go.Proofs.Ytpamdmikdnoplaa
