/- What an instruction makes, Op by Op: the plain goals. -/
import Derived.Test.YtpamdmikdnoplaaCkBehL
namespace Go.Proofs.Ytpamdmikdnoplaa
open Go.Sx Go.RowKit Go.Ck
set_option linter.unusedVariables false
set_option linter.unusedSimpArgs false
set_option maxRecDepth 100000

def b14_13T : NT :=
 (.ite (.ite (.lt (.var 5) (.lit 0)) (.lit 1) (.lt (.lit 256) (.var 5)))
 (.goal (.ite (.eq (.lit 2) (.var 100)) (.ite (.eq (.lit 0) (.var 101)) (.eq (.lit 0) (.var 130)) (.lit 0)) (.lit 0)))
 (.both (.goal (.le (.lit 0) (.var 1)))
 (.both (.goal (.lt (.var 1) (.lit 10)))
 (.ite (.not (.app (.app 70 (.cons (.var 1) (.cons (.bvar 7) (.cons (.bvar 10) (.cons (.bvar 13) (.cons (.bvar 16) (.cons (.bvar 19) (.cons (.bvar 22) (.cons (.bvar 25) (.cons (.bvar 28) (.cons (.bvar 31) (.cons (.bvar 34) .nil))))))))))))))
 (.goal (.ite (.eq (.lit 161) (.var 100)) (.ite (.eq (.lit 0) (.var 101)) (.eq (.lit 0) (.var 130)) (.lit 0)) (.lit 0)))
 (.both (.goal (.le (.lit 0) (.var 1)))
 (.both (.goal (.lt (.var 1) (.lit 10)))
 (.both (.goal (.le (.lit 0) (.var 1)))
 (.both (.goal (.lt (.var 1) (.lit 10)))
 (.goal (.ite (.eq (.lit 0) (.var 100)) (.ite (.eq (.lit 2) (.var 101)) (.ite (.le (.lit 0) (.var 1)) (.ite (.eq (.var 1) (.var 102)) (.ite (.eq (.lit 1) (.var 103)) (.ite (.eq (.wrap .u32 (.bin .shr .u64 (.app (.app 70 (.cons (.var 1) (.cons (.var 8) (.cons (.var 11) (.cons (.var 14) (.cons (.var 17) (.cons (.var 20) (.cons (.var 23) (.cons (.var 26) (.cons (.var 29) (.cons (.var 32) (.cons (.var 35) .nil))))))))))))) (.var 4))) (.var 104)) (.ite (.eq (.wrap .u32 (.bin .shr .u64 (.app (.app 70 (.cons (.var 1) (.cons (.var 9) (.cons (.var 12) (.cons (.var 15) (.cons (.var 18) (.cons (.var 21) (.cons (.var 24) (.cons (.var 27) (.cons (.var 30) (.cons (.var 33) (.cons (.var 36) .nil))))))))))))) (.var 4))) (.var 105)) (.eq (.lit 0) (.var 130)) (.lit 0)) (.lit 0)) (.lit 0)) (.lit 0)) (.lit 0)) (.lit 0)) (.lit 0)))))))))))
set_option maxHeartbeats 8000000 in
theorem b14_13_ev : finT (gamR behK) (chkL leaf14 (evFn Try.prog C14 20 30 14 (behA 13) [] (pre14 13))) = b14_13T := by kernel_rfl
set_option maxHeartbeats 16000000 in
theorem b14_13_holds (ρ : Env) (H : BehH ρ 13) (hctx : 0 ≤ ρ.i 5 ∧ ρ.i 5 ≤ 256) : b14_13T.Holds ρ := by
  obtain ⟨hI, h3, h4, hM, hR, rg, hV⟩ := H
  simp only [b14_13T, NT.Holds, N.denP, N.den, E.denB, E.den, E.denL, appI, hI, den_right, den_may', den_power, andIte, orIte, eS, eL, eG]
  have v0 := hV 0
  have v1 := hV 1
  have v2 := hV 2
  have v3 := hV 3
  have v4 := hV 4
  have v5 := hV 5
  have v6 := hV 6
  have v7 := hV 7
  have v8 := hV 8
  have v9 := hV 9
  have v10 := hV 10
  have v11 := hV 11
  have v12 := hV 12
  have v13 := hV 13
  have v14 := hV 14
  have v15 := hV 15
  have v16 := hV 16
  have v17 := hV 17
  have v18 := hV 18
  have v19 := hV 19
  have v20 := hV 20
  have v21 := hV 21
  have v22 := hV 22
  have v23 := hV 23
  have v24 := hV 24
  have v25 := hV 25
  have v30 := hV 30
  have v31 := hV 31
  have v32 := hV 32
  have v33 := hV 33
  have v34 := hV 34
  have v35 := hV 35
  have v36 := hV 36
  have v37 := hV 37
  have v38 := hV 38
  have v39 := hV 39
  simp only [Nat.reduceAdd, behE, rng] at v0 v1 v2 v3 v4 v5 v6 v7 v8 v9 v10 v11 v12 v13 v14 v15 v16 v17 v18 v19 v20 v21 v22 v23 v24 v25 v30 v31 v32 v33 v34 v35 v36 v37 v38 v39
  simp only [v0, v1, v2, v3, v4, v5, v6, v7, v8, v9, v10, v11, v12, v13, v14, v15, v16, v17, v18, v19, v20, v21, v22, v23, v24, v25, v30, v31, v32, v33, v34, v35, v36, v37, v38, v39]
  clear hV v0 v1 v2 v3 v4 v5 v6 v7 v8 v9 v10 v11 v12 v13 v14 v15 v16 v17 v18 v19 v20 v21 v22 v23 v24 v25 v30 v31 v32 v33 v34 v35 v36 v37 v38 v39
  have hd1 := hR (ρ.i 1)
  have hq1 := hR (ρ.i 2)
  have rd := rg (ρ.i 1)
  have rq := rg (ρ.i 2)
  clear hR rg
  generalize rS ρ (ρ.i 1) = dS at *
  generalize rL ρ (ρ.i 1) = dL at *
  generalize rG ρ (ρ.i 1) = dG at *
  generalize rS ρ (ρ.i 2) = qS at *
  generalize rL ρ (ρ.i 2) = qL at *
  generalize rG ρ (ρ.i 2) = qG at *
  generalize ρ.i 1 = dst at *
  generalize ρ.i 2 = src at *
  generalize ρ.i 3 = off at *
  generalize ρ.i 4 = imm at *
  generalize ρ.i 5 = ctx at *
  generalize ρ.b 7 = s0 at *
  clear hI
  simp [MayP, useD, useS, useM] at hM
  have f0 := shr_div (x := dL) (i := imm) (by omega) (by omega) (by omega)
  have f1 := shr_div (x := dG) (i := imm) (by omega) (by omega) (by omega)
  simp [beh, needs, useS, useM, made, fit, codeB, codeK, codeP, f0, f1]
  clear f0 f1
  try (repeat' (first | apply And.intro | intro _))
  all_goals (try omega)
  all_goals (try omega)
  all_goals (try simp_all [codeP])
  all_goals (try omega)
  all_goals (try (first | exact quo_div (by omega) (by omega) (by omega) | exact mnw (by omega) (by omega) (by omega) (by omega) | exact mxw (by omega) (by omega) (by omega) (by omega) | exact wrap2 (by omega) (by omega) | exact fits_u32 (by omega) (by omega)))
  done
def b14_14T : NT :=
 (.ite (.ite (.lt (.var 5) (.lit 0)) (.lit 1) (.lt (.lit 256) (.var 5)))
 (.goal (.ite (.eq (.lit 2) (.var 100)) (.ite (.eq (.lit 0) (.var 101)) (.eq (.lit 0) (.var 130)) (.lit 0)) (.lit 0)))
 (.both (.goal (.le (.lit 0) (.var 1)))
 (.both (.goal (.lt (.var 1) (.lit 10)))
 (.ite (.not (.app (.app 70 (.cons (.var 1) (.cons (.bvar 7) (.cons (.bvar 10) (.cons (.bvar 13) (.cons (.bvar 16) (.cons (.bvar 19) (.cons (.bvar 22) (.cons (.bvar 25) (.cons (.bvar 28) (.cons (.bvar 31) (.cons (.bvar 34) .nil))))))))))))))
 (.goal (.ite (.eq (.lit 161) (.var 100)) (.ite (.eq (.lit 0) (.var 101)) (.eq (.lit 0) (.var 130)) (.lit 0)) (.lit 0)))
 (.both (.goal (.le (.lit 0) (.var 1)))
 (.both (.goal (.lt (.var 1) (.lit 10)))
 (.both (.goal (.le (.lit 0) (.var 2)))
 (.both (.goal (.lt (.var 2) (.lit 10)))
 (.ite (.not (.app (.app 70 (.cons (.var 2) (.cons (.bvar 7) (.cons (.bvar 10) (.cons (.bvar 13) (.cons (.bvar 16) (.cons (.bvar 19) (.cons (.bvar 22) (.cons (.bvar 25) (.cons (.bvar 28) (.cons (.bvar 31) (.cons (.bvar 34) .nil))))))))))))))
 (.goal (.ite (.eq (.lit 161) (.var 100)) (.ite (.eq (.lit 0) (.var 101)) (.eq (.lit 0) (.var 130)) (.lit 0)) (.lit 0)))
 (.both (.goal (.le (.lit 0) (.var 2)))
 (.both (.goal (.lt (.var 2) (.lit 10)))
 (.ite (.not (.lt (.lit 0) (.app (.app 70 (.cons (.var 2) (.cons (.var 8) (.cons (.var 11) (.cons (.var 14) (.cons (.var 17) (.cons (.var 20) (.cons (.var 23) (.cons (.var 26) (.cons (.var 29) (.cons (.var 32) (.cons (.var 35) .nil)))))))))))))))
 (.goal (.ite (.eq (.lit 162) (.var 100)) (.ite (.eq (.lit 0) (.var 101)) (.eq (.lit 0) (.var 130)) (.lit 0)) (.lit 0)))
 (.both (.goal (.not (.eq (.app (.app 70 (.cons (.var 2) (.cons (.var 9) (.cons (.var 12) (.cons (.var 15) (.cons (.var 18) (.cons (.var 21) (.cons (.var 24) (.cons (.var 27) (.cons (.var 30) (.cons (.var 33) (.cons (.var 36) .nil))))))))))))) (.lit 0))))
 (.both (.goal (.not (.eq (.app (.app 70 (.cons (.var 2) (.cons (.var 8) (.cons (.var 11) (.cons (.var 14) (.cons (.var 17) (.cons (.var 20) (.cons (.var 23) (.cons (.var 26) (.cons (.var 29) (.cons (.var 32) (.cons (.var 35) .nil))))))))))))) (.lit 0))))
 (.both (.goal (.le (.lit 0) (.var 1)))
 (.both (.goal (.lt (.var 1) (.lit 10)))
 (.goal (.ite (.eq (.lit 0) (.var 100)) (.ite (.eq (.lit 2) (.var 101)) (.ite (.le (.lit 0) (.var 1)) (.ite (.eq (.var 1) (.var 102)) (.ite (.eq (.lit 1) (.var 103)) (.ite (.eq (.wrap .u32 (.bin .quo .u64 (.app (.app 70 (.cons (.var 1) (.cons (.var 8) (.cons (.var 11) (.cons (.var 14) (.cons (.var 17) (.cons (.var 20) (.cons (.var 23) (.cons (.var 26) (.cons (.var 29) (.cons (.var 32) (.cons (.var 35) .nil))))))))))))) (.app (.app 70 (.cons (.var 2) (.cons (.var 9) (.cons (.var 12) (.cons (.var 15) (.cons (.var 18) (.cons (.var 21) (.cons (.var 24) (.cons (.var 27) (.cons (.var 30) (.cons (.var 33) (.cons (.var 36) .nil))))))))))))))) (.var 104)) (.ite (.eq (.wrap .u32 (.bin .quo .u64 (.app (.app 70 (.cons (.var 1) (.cons (.var 9) (.cons (.var 12) (.cons (.var 15) (.cons (.var 18) (.cons (.var 21) (.cons (.var 24) (.cons (.var 27) (.cons (.var 30) (.cons (.var 33) (.cons (.var 36) .nil))))))))))))) (.app (.app 70 (.cons (.var 2) (.cons (.var 8) (.cons (.var 11) (.cons (.var 14) (.cons (.var 17) (.cons (.var 20) (.cons (.var 23) (.cons (.var 26) (.cons (.var 29) (.cons (.var 32) (.cons (.var 35) .nil))))))))))))))) (.var 105)) (.eq (.lit 0) (.var 130)) (.lit 0)) (.lit 0)) (.lit 0)) (.lit 0)) (.lit 0)) (.lit 0)) (.lit 0)))))))))))))))))))
set_option maxHeartbeats 8000000 in
theorem b14_14_ev : finT (gamR behK) (chkL leaf14 (evFn Try.prog C14 20 30 14 (behA 14) [] (pre14 14))) = b14_14T := by kernel_rfl
set_option maxHeartbeats 16000000 in
theorem b14_14_holds (ρ : Env) (H : BehH ρ 14) (hctx : 0 ≤ ρ.i 5 ∧ ρ.i 5 ≤ 256) : b14_14T.Holds ρ := by
  obtain ⟨hI, h3, h4, hM, hR, rg, hV⟩ := H
  simp only [b14_14T, NT.Holds, N.denP, N.den, E.denB, E.den, E.denL, appI, hI, den_right, den_may', den_power, andIte, orIte, eS, eL, eG]
  have v0 := hV 0
  have v1 := hV 1
  have v2 := hV 2
  have v3 := hV 3
  have v4 := hV 4
  have v5 := hV 5
  have v6 := hV 6
  have v7 := hV 7
  have v8 := hV 8
  have v9 := hV 9
  have v10 := hV 10
  have v11 := hV 11
  have v12 := hV 12
  have v13 := hV 13
  have v14 := hV 14
  have v15 := hV 15
  have v16 := hV 16
  have v17 := hV 17
  have v18 := hV 18
  have v19 := hV 19
  have v20 := hV 20
  have v21 := hV 21
  have v22 := hV 22
  have v23 := hV 23
  have v24 := hV 24
  have v25 := hV 25
  have v30 := hV 30
  have v31 := hV 31
  have v32 := hV 32
  have v33 := hV 33
  have v34 := hV 34
  have v35 := hV 35
  have v36 := hV 36
  have v37 := hV 37
  have v38 := hV 38
  have v39 := hV 39
  simp only [Nat.reduceAdd, behE, rng] at v0 v1 v2 v3 v4 v5 v6 v7 v8 v9 v10 v11 v12 v13 v14 v15 v16 v17 v18 v19 v20 v21 v22 v23 v24 v25 v30 v31 v32 v33 v34 v35 v36 v37 v38 v39
  simp only [v0, v1, v2, v3, v4, v5, v6, v7, v8, v9, v10, v11, v12, v13, v14, v15, v16, v17, v18, v19, v20, v21, v22, v23, v24, v25, v30, v31, v32, v33, v34, v35, v36, v37, v38, v39]
  clear hV v0 v1 v2 v3 v4 v5 v6 v7 v8 v9 v10 v11 v12 v13 v14 v15 v16 v17 v18 v19 v20 v21 v22 v23 v24 v25 v30 v31 v32 v33 v34 v35 v36 v37 v38 v39
  have hd1 := hR (ρ.i 1)
  have hq1 := hR (ρ.i 2)
  have rd := rg (ρ.i 1)
  have rq := rg (ρ.i 2)
  clear hR rg
  generalize rS ρ (ρ.i 1) = dS at *
  generalize rL ρ (ρ.i 1) = dL at *
  generalize rG ρ (ρ.i 1) = dG at *
  generalize rS ρ (ρ.i 2) = qS at *
  generalize rL ρ (ρ.i 2) = qL at *
  generalize rG ρ (ρ.i 2) = qG at *
  generalize ρ.i 1 = dst at *
  generalize ρ.i 2 = src at *
  generalize ρ.i 3 = off at *
  generalize ρ.i 4 = imm at *
  generalize ρ.i 5 = ctx at *
  generalize ρ.b 7 = s0 at *
  clear hI
  simp [MayP, useD, useS, useM] at hM
  have g0 := fun h => quo_div (a := dL) (b := qG) (by omega) (by omega) h
  have g1 := fun h => quo_div (a := dG) (b := qL) (by omega) (by omega) h
  simp [beh, needs, useS, useM, made, fit, codeB, codeK, codeP]
  try (repeat' (first | apply And.intro | intro _))
  all_goals (try omega)
  all_goals (try (first | simp [if_pos (show qL = 0 by first | omega | (intro _; omega)), codeP] | simp [if_neg (show ¬ (qL = 0) by first | omega | (intro h; have h' := h (by omega); omega)), codeP]))
  all_goals (try omega)
  all_goals (try (clear g0 g1))
  all_goals (try simp_all [codeP])
  all_goals (try omega)
  all_goals (try (first | exact quo_div (by omega) (by omega) (by omega) | exact mnw (by omega) (by omega) (by omega) (by omega) | exact mxw (by omega) (by omega) (by omega) (by omega) | exact wrap2 (by omega) (by omega) | exact fits_u32 (by omega) (by omega)))
  done
def b14_15T : NT :=
 (.ite (.ite (.lt (.var 5) (.lit 0)) (.lit 1) (.lt (.lit 256) (.var 5)))
 (.goal (.ite (.eq (.lit 2) (.var 100)) (.ite (.eq (.lit 0) (.var 101)) (.eq (.lit 0) (.var 130)) (.lit 0)) (.lit 0)))
 (.both (.goal (.le (.lit 0) (.var 1)))
 (.both (.goal (.lt (.var 1) (.lit 10)))
 (.ite (.not (.app (.app 70 (.cons (.var 1) (.cons (.bvar 7) (.cons (.bvar 10) (.cons (.bvar 13) (.cons (.bvar 16) (.cons (.bvar 19) (.cons (.bvar 22) (.cons (.bvar 25) (.cons (.bvar 28) (.cons (.bvar 31) (.cons (.bvar 34) .nil))))))))))))))
 (.goal (.ite (.eq (.lit 161) (.var 100)) (.ite (.eq (.lit 0) (.var 101)) (.eq (.lit 0) (.var 130)) (.lit 0)) (.lit 0)))
 (.both (.goal (.le (.lit 0) (.var 1)))
 (.both (.goal (.lt (.var 1) (.lit 10)))
 (.both (.goal (.le (.lit 0) (.var 2)))
 (.both (.goal (.lt (.var 2) (.lit 10)))
 (.ite (.not (.app (.app 70 (.cons (.var 2) (.cons (.bvar 7) (.cons (.bvar 10) (.cons (.bvar 13) (.cons (.bvar 16) (.cons (.bvar 19) (.cons (.bvar 22) (.cons (.bvar 25) (.cons (.bvar 28) (.cons (.bvar 31) (.cons (.bvar 34) .nil))))))))))))))
 (.goal (.ite (.eq (.lit 161) (.var 100)) (.ite (.eq (.lit 0) (.var 101)) (.eq (.lit 0) (.var 130)) (.lit 0)) (.lit 0)))
 (.both (.goal (.le (.lit 0) (.var 2)))
 (.both (.goal (.lt (.var 2) (.lit 10)))
 (.ite (.not (.lt (.lit 0) (.app (.app 70 (.cons (.var 2) (.cons (.var 8) (.cons (.var 11) (.cons (.var 14) (.cons (.var 17) (.cons (.var 20) (.cons (.var 23) (.cons (.var 26) (.cons (.var 29) (.cons (.var 32) (.cons (.var 35) .nil)))))))))))))))
 (.goal (.ite (.eq (.lit 162) (.var 100)) (.ite (.eq (.lit 0) (.var 101)) (.eq (.lit 0) (.var 130)) (.lit 0)) (.lit 0)))
 (.both (.goal (.le (.lit 0) (.var 1)))
 (.both (.goal (.lt (.var 1) (.lit 10)))
 (.goal (.ite (.eq (.lit 0) (.var 100)) (.ite (.eq (.lit 2) (.var 101)) (.ite (.le (.lit 0) (.var 1)) (.ite (.eq (.var 1) (.var 102)) (.ite (.eq (.lit 1) (.var 103)) (.ite (.eq (.lit 0) (.var 104)) (.ite (.eq (.wrap .u32 (.ite (.lt (.wrap .u64 (.sub (.app (.app 70 (.cons (.var 2) (.cons (.var 9) (.cons (.var 12) (.cons (.var 15) (.cons (.var 18) (.cons (.var 21) (.cons (.var 24) (.cons (.var 27) (.cons (.var 30) (.cons (.var 33) (.cons (.var 36) .nil))))))))))))) (.lit 1))) (.app (.app 70 (.cons (.var 1) (.cons (.var 9) (.cons (.var 12) (.cons (.var 15) (.cons (.var 18) (.cons (.var 21) (.cons (.var 24) (.cons (.var 27) (.cons (.var 30) (.cons (.var 33) (.cons (.var 36) .nil)))))))))))))) (.wrap .u64 (.sub (.app (.app 70 (.cons (.var 2) (.cons (.var 9) (.cons (.var 12) (.cons (.var 15) (.cons (.var 18) (.cons (.var 21) (.cons (.var 24) (.cons (.var 27) (.cons (.var 30) (.cons (.var 33) (.cons (.var 36) .nil))))))))))))) (.lit 1))) (.app (.app 70 (.cons (.var 1) (.cons (.var 9) (.cons (.var 12) (.cons (.var 15) (.cons (.var 18) (.cons (.var 21) (.cons (.var 24) (.cons (.var 27) (.cons (.var 30) (.cons (.var 33) (.cons (.var 36) .nil))))))))))))))) (.var 105)) (.eq (.lit 0) (.var 130)) (.lit 0)) (.lit 0)) (.lit 0)) (.lit 0)) (.lit 0)) (.lit 0)) (.lit 0)))))))))))))))))
set_option maxHeartbeats 8000000 in
theorem b14_15_ev : finT (gamR behK) (chkL leaf14 (evFn Try.prog C14 20 30 14 (behA 15) [] (pre14 15))) = b14_15T := by kernel_rfl
set_option maxHeartbeats 16000000 in
theorem b14_15_holds (ρ : Env) (H : BehH ρ 15) (hctx : 0 ≤ ρ.i 5 ∧ ρ.i 5 ≤ 256) : b14_15T.Holds ρ := by
  obtain ⟨hI, h3, h4, hM, hR, rg, hV⟩ := H
  simp only [b14_15T, NT.Holds, N.denP, N.den, E.denB, E.den, E.denL, appI, hI, den_right, den_may', den_power, andIte, orIte, eS, eL, eG]
  have v0 := hV 0
  have v1 := hV 1
  have v2 := hV 2
  have v3 := hV 3
  have v4 := hV 4
  have v5 := hV 5
  have v6 := hV 6
  have v7 := hV 7
  have v8 := hV 8
  have v9 := hV 9
  have v10 := hV 10
  have v11 := hV 11
  have v12 := hV 12
  have v13 := hV 13
  have v14 := hV 14
  have v15 := hV 15
  have v16 := hV 16
  have v17 := hV 17
  have v18 := hV 18
  have v19 := hV 19
  have v20 := hV 20
  have v21 := hV 21
  have v22 := hV 22
  have v23 := hV 23
  have v24 := hV 24
  have v25 := hV 25
  have v30 := hV 30
  have v31 := hV 31
  have v32 := hV 32
  have v33 := hV 33
  have v34 := hV 34
  have v35 := hV 35
  have v36 := hV 36
  have v37 := hV 37
  have v38 := hV 38
  have v39 := hV 39
  simp only [Nat.reduceAdd, behE, rng] at v0 v1 v2 v3 v4 v5 v6 v7 v8 v9 v10 v11 v12 v13 v14 v15 v16 v17 v18 v19 v20 v21 v22 v23 v24 v25 v30 v31 v32 v33 v34 v35 v36 v37 v38 v39
  simp only [v0, v1, v2, v3, v4, v5, v6, v7, v8, v9, v10, v11, v12, v13, v14, v15, v16, v17, v18, v19, v20, v21, v22, v23, v24, v25, v30, v31, v32, v33, v34, v35, v36, v37, v38, v39]
  clear hV v0 v1 v2 v3 v4 v5 v6 v7 v8 v9 v10 v11 v12 v13 v14 v15 v16 v17 v18 v19 v20 v21 v22 v23 v24 v25 v30 v31 v32 v33 v34 v35 v36 v37 v38 v39
  have hd1 := hR (ρ.i 1)
  have hq1 := hR (ρ.i 2)
  have rd := rg (ρ.i 1)
  have rq := rg (ρ.i 2)
  clear hR rg
  generalize rS ρ (ρ.i 1) = dS at *
  generalize rL ρ (ρ.i 1) = dL at *
  generalize rG ρ (ρ.i 1) = dG at *
  generalize rS ρ (ρ.i 2) = qS at *
  generalize rL ρ (ρ.i 2) = qL at *
  generalize rG ρ (ρ.i 2) = qG at *
  generalize ρ.i 1 = dst at *
  generalize ρ.i 2 = src at *
  generalize ρ.i 3 = off at *
  generalize ρ.i 4 = imm at *
  generalize ρ.i 5 = ctx at *
  generalize ρ.b 7 = s0 at *
  clear hI
  simp [MayP, useD, useS, useM] at hM
  have g0 := fun h => mnw (a := qG) (b := dG) h (by omega) (by omega) (by omega)
  simp [beh, needs, useS, useM, made, fit, codeB, codeK, codeP]
  try (repeat' (first | apply And.intro | intro _))
  all_goals (try omega)
  all_goals (try (first | simp [if_pos (show qL = 0 by first | omega | (intro _; omega)), codeP] | simp [if_neg (show ¬ (qL = 0) by first | omega | (intro h; have h' := h (by omega); omega)), codeP]))
  all_goals (try omega)
  all_goals (try (clear g0))
  all_goals (try simp_all [codeP])
  all_goals (try omega)
  all_goals (try (first | exact quo_div (by omega) (by omega) (by omega) | exact mnw (by omega) (by omega) (by omega) (by omega) | exact mxw (by omega) (by omega) (by omega) (by omega) | exact wrap2 (by omega) (by omega) | exact fits_u32 (by omega) (by omega)))
  done
def b14_16T : NT :=
 (.ite (.ite (.lt (.var 5) (.lit 0)) (.lit 1) (.lt (.lit 256) (.var 5)))
 (.goal (.ite (.eq (.lit 2) (.var 100)) (.ite (.eq (.lit 0) (.var 101)) (.eq (.lit 0) (.var 130)) (.lit 0)) (.lit 0)))
 (.both (.goal (.le (.lit 0) (.var 2)))
 (.both (.goal (.lt (.var 2) (.lit 10)))
 (.ite (.not (.app (.app 70 (.cons (.var 2) (.cons (.bvar 7) (.cons (.bvar 10) (.cons (.bvar 13) (.cons (.bvar 16) (.cons (.bvar 19) (.cons (.bvar 22) (.cons (.bvar 25) (.cons (.bvar 28) (.cons (.bvar 31) (.cons (.bvar 34) .nil))))))))))))))
 (.goal (.ite (.eq (.lit 161) (.var 100)) (.ite (.eq (.lit 0) (.var 101)) (.eq (.lit 0) (.var 130)) (.lit 0)) (.lit 0)))
 (.both (.goal (.le (.lit 0) (.var 2)))
 (.both (.goal (.lt (.var 2) (.lit 10)))
 (.ite (.not (.ite (.le (.lit 0) (.wrap .i64 (.add (.app (.app 70 (.cons (.var 2) (.cons (.var 8) (.cons (.var 11) (.cons (.var 14) (.cons (.var 17) (.cons (.var 20) (.cons (.var 23) (.cons (.var 26) (.cons (.var 29) (.cons (.var 32) (.cons (.var 35) .nil))))))))))))) (.var 3)))) (.lt (.wrap .i64 (.add (.app (.app 70 (.cons (.var 2) (.cons (.var 9) (.cons (.var 12) (.cons (.var 15) (.cons (.var 18) (.cons (.var 21) (.cons (.var 24) (.cons (.var 27) (.cons (.var 30) (.cons (.var 33) (.cons (.var 36) .nil))))))))))))) (.var 3))) (.var 5)) (.lit 0)))
 (.goal (.ite (.eq (.lit 163) (.var 100)) (.ite (.eq (.lit 0) (.var 101)) (.eq (.lit 0) (.var 130)) (.lit 0)) (.lit 0)))
 (.both (.goal (.le (.lit 0) (.var 1)))
 (.both (.goal (.lt (.var 1) (.lit 10)))
 (.goal (.ite (.eq (.lit 0) (.var 100)) (.ite (.eq (.lit 2) (.var 101)) (.ite (.le (.lit 0) (.var 1)) (.ite (.eq (.var 1) (.var 102)) (.ite (.eq (.lit 1) (.var 103)) (.ite (.eq (.lit 0) (.var 104)) (.ite (.eq (.lit 255) (.var 105)) (.eq (.lit 0) (.var 130)) (.lit 0)) (.lit 0)) (.lit 0)) (.lit 0)) (.lit 0)) (.lit 0)) (.lit 0))))))))))))
set_option maxHeartbeats 8000000 in
theorem b14_16_ev : finT (gamR behK) (chkL leaf14 (evFn Try.prog C14 20 30 14 (behA 16) [] (pre14 16))) = b14_16T := by kernel_rfl
set_option maxHeartbeats 16000000 in
theorem b14_16_holds (ρ : Env) (H : BehH ρ 16) (hctx : 0 ≤ ρ.i 5 ∧ ρ.i 5 ≤ 256) : b14_16T.Holds ρ := by
  obtain ⟨hI, h3, h4, hM, hR, rg, hV⟩ := H
  simp only [b14_16T, NT.Holds, N.denP, N.den, E.denB, E.den, E.denL, appI, hI, den_right, den_may', den_power, andIte, orIte, eS, eL, eG]
  have v0 := hV 0
  have v1 := hV 1
  have v2 := hV 2
  have v3 := hV 3
  have v4 := hV 4
  have v5 := hV 5
  have v6 := hV 6
  have v7 := hV 7
  have v8 := hV 8
  have v9 := hV 9
  have v10 := hV 10
  have v11 := hV 11
  have v12 := hV 12
  have v13 := hV 13
  have v14 := hV 14
  have v15 := hV 15
  have v16 := hV 16
  have v17 := hV 17
  have v18 := hV 18
  have v19 := hV 19
  have v20 := hV 20
  have v21 := hV 21
  have v22 := hV 22
  have v23 := hV 23
  have v24 := hV 24
  have v25 := hV 25
  have v30 := hV 30
  have v31 := hV 31
  have v32 := hV 32
  have v33 := hV 33
  have v34 := hV 34
  have v35 := hV 35
  have v36 := hV 36
  have v37 := hV 37
  have v38 := hV 38
  have v39 := hV 39
  simp only [Nat.reduceAdd, behE, rng] at v0 v1 v2 v3 v4 v5 v6 v7 v8 v9 v10 v11 v12 v13 v14 v15 v16 v17 v18 v19 v20 v21 v22 v23 v24 v25 v30 v31 v32 v33 v34 v35 v36 v37 v38 v39
  simp only [v0, v1, v2, v3, v4, v5, v6, v7, v8, v9, v10, v11, v12, v13, v14, v15, v16, v17, v18, v19, v20, v21, v22, v23, v24, v25, v30, v31, v32, v33, v34, v35, v36, v37, v38, v39]
  clear hV v0 v1 v2 v3 v4 v5 v6 v7 v8 v9 v10 v11 v12 v13 v14 v15 v16 v17 v18 v19 v20 v21 v22 v23 v24 v25 v30 v31 v32 v33 v34 v35 v36 v37 v38 v39
  have hd1 := hR (ρ.i 1)
  have hq1 := hR (ρ.i 2)
  have rd := rg (ρ.i 1)
  have rq := rg (ρ.i 2)
  clear hR rg
  generalize rS ρ (ρ.i 1) = dS at *
  generalize rL ρ (ρ.i 1) = dL at *
  generalize rG ρ (ρ.i 1) = dG at *
  generalize rS ρ (ρ.i 2) = qS at *
  generalize rL ρ (ρ.i 2) = qL at *
  generalize rG ρ (ρ.i 2) = qG at *
  generalize ρ.i 1 = dst at *
  generalize ρ.i 2 = src at *
  generalize ρ.i 3 = off at *
  generalize ρ.i 4 = imm at *
  generalize ρ.i 5 = ctx at *
  generalize ρ.b 7 = s0 at *
  clear hI
  simp [MayP, useD, useS, useM] at hM
  have f0 := fits_i64 (x := qL + off) (by omega) (by omega)
  have f1 := fits_i64 (x := qG + off) (by omega) (by omega)
  simp [beh, needs, useS, useM, made, fit, codeB, codeK, codeP, f0, f1]
  clear f0 f1
  try (repeat' (first | apply And.intro | intro _))
  all_goals (try omega)
  all_goals (try (first | simp [if_pos (show 0 ≤ qL + off → ctx ≤ qG + off by first | omega | (intro _; omega)), codeP] | simp [if_neg (show ¬ (0 ≤ qL + off → ctx ≤ qG + off) by first | omega | (intro h; have h' := h (by omega); omega)), codeP]))
  all_goals (try omega)
  all_goals (try simp_all [codeP])
  all_goals (try omega)
  all_goals (try (first | exact quo_div (by omega) (by omega) (by omega) | exact mnw (by omega) (by omega) (by omega) (by omega) | exact mxw (by omega) (by omega) (by omega) (by omega) | exact wrap2 (by omega) (by omega) | exact fits_u32 (by omega) (by omega)))
  done
def b14_17T : NT :=
 (.ite (.ite (.lt (.var 5) (.lit 0)) (.lit 1) (.lt (.lit 256) (.var 5)))
 (.goal (.ite (.eq (.lit 2) (.var 100)) (.ite (.eq (.lit 0) (.var 101)) (.eq (.lit 0) (.var 130)) (.lit 0)) (.lit 0)))
 (.both (.goal (.le (.lit 0) (.var 2)))
 (.both (.goal (.lt (.var 2) (.lit 10)))
 (.ite (.not (.app (.app 70 (.cons (.var 2) (.cons (.bvar 7) (.cons (.bvar 10) (.cons (.bvar 13) (.cons (.bvar 16) (.cons (.bvar 19) (.cons (.bvar 22) (.cons (.bvar 25) (.cons (.bvar 28) (.cons (.bvar 31) (.cons (.bvar 34) .nil))))))))))))))
 (.goal (.ite (.eq (.lit 161) (.var 100)) (.ite (.eq (.lit 0) (.var 101)) (.eq (.lit 0) (.var 130)) (.lit 0)) (.lit 0)))
 (.both (.goal (.le (.lit 0) (.var 2)))
 (.both (.goal (.lt (.var 2) (.lit 10)))
 (.ite (.not (.ite (.le (.lit 0) (.wrap .i64 (.add (.app (.app 70 (.cons (.var 2) (.cons (.var 8) (.cons (.var 11) (.cons (.var 14) (.cons (.var 17) (.cons (.var 20) (.cons (.var 23) (.cons (.var 26) (.cons (.var 29) (.cons (.var 32) (.cons (.var 35) .nil))))))))))))) (.var 3)))) (.lt (.wrap .i64 (.add (.app (.app 70 (.cons (.var 2) (.cons (.var 9) (.cons (.var 12) (.cons (.var 15) (.cons (.var 18) (.cons (.var 21) (.cons (.var 24) (.cons (.var 27) (.cons (.var 30) (.cons (.var 33) (.cons (.var 36) .nil))))))))))))) (.var 3))) (.lit 64)) (.lit 0)))
 (.goal (.ite (.eq (.lit 163) (.var 100)) (.ite (.eq (.lit 0) (.var 101)) (.eq (.lit 0) (.var 130)) (.lit 0)) (.lit 0)))
 (.both (.goal (.le (.lit 0) (.var 1)))
 (.both (.goal (.lt (.var 1) (.lit 10)))
 (.goal (.ite (.eq (.lit 0) (.var 100)) (.ite (.eq (.lit 2) (.var 101)) (.ite (.le (.lit 0) (.var 1)) (.ite (.eq (.var 1) (.var 102)) (.ite (.eq (.lit 1) (.var 103)) (.ite (.eq (.lit 0) (.var 104)) (.ite (.eq (.lit 255) (.var 105)) (.eq (.lit 0) (.var 130)) (.lit 0)) (.lit 0)) (.lit 0)) (.lit 0)) (.lit 0)) (.lit 0)) (.lit 0))))))))))))
set_option maxHeartbeats 8000000 in
theorem b14_17_ev : finT (gamR behK) (chkL leaf14 (evFn Try.prog C14 20 30 14 (behA 17) [] (pre14 17))) = b14_17T := by kernel_rfl
set_option maxHeartbeats 16000000 in
theorem b14_17_holds (ρ : Env) (H : BehH ρ 17) (hctx : 0 ≤ ρ.i 5 ∧ ρ.i 5 ≤ 256) : b14_17T.Holds ρ := by
  obtain ⟨hI, h3, h4, hM, hR, rg, hV⟩ := H
  simp only [b14_17T, NT.Holds, N.denP, N.den, E.denB, E.den, E.denL, appI, hI, den_right, den_may', den_power, andIte, orIte, eS, eL, eG]
  have v0 := hV 0
  have v1 := hV 1
  have v2 := hV 2
  have v3 := hV 3
  have v4 := hV 4
  have v5 := hV 5
  have v6 := hV 6
  have v7 := hV 7
  have v8 := hV 8
  have v9 := hV 9
  have v10 := hV 10
  have v11 := hV 11
  have v12 := hV 12
  have v13 := hV 13
  have v14 := hV 14
  have v15 := hV 15
  have v16 := hV 16
  have v17 := hV 17
  have v18 := hV 18
  have v19 := hV 19
  have v20 := hV 20
  have v21 := hV 21
  have v22 := hV 22
  have v23 := hV 23
  have v24 := hV 24
  have v25 := hV 25
  have v30 := hV 30
  have v31 := hV 31
  have v32 := hV 32
  have v33 := hV 33
  have v34 := hV 34
  have v35 := hV 35
  have v36 := hV 36
  have v37 := hV 37
  have v38 := hV 38
  have v39 := hV 39
  simp only [Nat.reduceAdd, behE, rng] at v0 v1 v2 v3 v4 v5 v6 v7 v8 v9 v10 v11 v12 v13 v14 v15 v16 v17 v18 v19 v20 v21 v22 v23 v24 v25 v30 v31 v32 v33 v34 v35 v36 v37 v38 v39
  simp only [v0, v1, v2, v3, v4, v5, v6, v7, v8, v9, v10, v11, v12, v13, v14, v15, v16, v17, v18, v19, v20, v21, v22, v23, v24, v25, v30, v31, v32, v33, v34, v35, v36, v37, v38, v39]
  clear hV v0 v1 v2 v3 v4 v5 v6 v7 v8 v9 v10 v11 v12 v13 v14 v15 v16 v17 v18 v19 v20 v21 v22 v23 v24 v25 v30 v31 v32 v33 v34 v35 v36 v37 v38 v39
  have hd1 := hR (ρ.i 1)
  have hq1 := hR (ρ.i 2)
  have rd := rg (ρ.i 1)
  have rq := rg (ρ.i 2)
  clear hR rg
  generalize rS ρ (ρ.i 1) = dS at *
  generalize rL ρ (ρ.i 1) = dL at *
  generalize rG ρ (ρ.i 1) = dG at *
  generalize rS ρ (ρ.i 2) = qS at *
  generalize rL ρ (ρ.i 2) = qL at *
  generalize rG ρ (ρ.i 2) = qG at *
  generalize ρ.i 1 = dst at *
  generalize ρ.i 2 = src at *
  generalize ρ.i 3 = off at *
  generalize ρ.i 4 = imm at *
  generalize ρ.i 5 = ctx at *
  generalize ρ.b 7 = s0 at *
  clear hI
  simp [MayP, useD, useS, useM] at hM
  have f0 := fits_i64 (x := qL + off) (by omega) (by omega)
  have f1 := fits_i64 (x := qG + off) (by omega) (by omega)
  simp [beh, needs, useS, useM, made, fit, codeB, codeK, codeP, f0, f1]
  clear f0 f1
  try (repeat' (first | apply And.intro | intro _))
  all_goals (try omega)
  all_goals (try (first | simp [if_pos (show 0 ≤ qL + off → 64 ≤ qG + off by first | omega | (intro _; omega)), codeP] | simp [if_neg (show ¬ (0 ≤ qL + off → 64 ≤ qG + off) by first | omega | (intro h; have h' := h (by omega); omega)), codeP]))
  all_goals (try omega)
  all_goals (try simp_all [codeP])
  all_goals (try omega)
  all_goals (try (first | exact quo_div (by omega) (by omega) (by omega) | exact mnw (by omega) (by omega) (by omega) (by omega) | exact mxw (by omega) (by omega) (by omega) (by omega) | exact wrap2 (by omega) (by omega) | exact fits_u32 (by omega) (by omega)))
  done
def b14_18T : NT :=
 (.ite (.ite (.lt (.var 5) (.lit 0)) (.lit 1) (.lt (.lit 256) (.var 5)))
 (.goal (.ite (.eq (.lit 2) (.var 100)) (.ite (.eq (.lit 0) (.var 101)) (.eq (.lit 0) (.var 130)) (.lit 0)) (.lit 0)))
 (.both (.goal (.le (.lit 0) (.var 1)))
 (.both (.goal (.lt (.var 1) (.lit 10)))
 (.ite (.not (.app (.app 70 (.cons (.var 1) (.cons (.bvar 7) (.cons (.bvar 10) (.cons (.bvar 13) (.cons (.bvar 16) (.cons (.bvar 19) (.cons (.bvar 22) (.cons (.bvar 25) (.cons (.bvar 28) (.cons (.bvar 31) (.cons (.bvar 34) .nil))))))))))))))
 (.goal (.ite (.eq (.lit 161) (.var 100)) (.ite (.eq (.lit 0) (.var 101)) (.eq (.lit 0) (.var 130)) (.lit 0)) (.lit 0)))
 (.both (.goal (.le (.lit 0) (.var 1)))
 (.both (.goal (.lt (.var 1) (.lit 10)))
 (.both (.goal (.le (.lit 0) (.var 2)))
 (.both (.goal (.lt (.var 2) (.lit 10)))
 (.ite (.not (.app (.app 70 (.cons (.var 2) (.cons (.bvar 7) (.cons (.bvar 10) (.cons (.bvar 13) (.cons (.bvar 16) (.cons (.bvar 19) (.cons (.bvar 22) (.cons (.bvar 25) (.cons (.bvar 28) (.cons (.bvar 31) (.cons (.bvar 34) .nil))))))))))))))
 (.goal (.ite (.eq (.lit 161) (.var 100)) (.ite (.eq (.lit 0) (.var 101)) (.eq (.lit 0) (.var 130)) (.lit 0)) (.lit 0)))
 (.both (.goal (.le (.lit 0) (.var 2)))
 (.both (.goal (.lt (.var 2) (.lit 10)))
 (.ite (.not (.ite (.le (.lit 0) (.wrap .i64 (.add (.app (.app 70 (.cons (.var 1) (.cons (.var 8) (.cons (.var 11) (.cons (.var 14) (.cons (.var 17) (.cons (.var 20) (.cons (.var 23) (.cons (.var 26) (.cons (.var 29) (.cons (.var 32) (.cons (.var 35) .nil))))))))))))) (.var 3)))) (.lt (.wrap .i64 (.add (.app (.app 70 (.cons (.var 1) (.cons (.var 9) (.cons (.var 12) (.cons (.var 15) (.cons (.var 18) (.cons (.var 21) (.cons (.var 24) (.cons (.var 27) (.cons (.var 30) (.cons (.var 33) (.cons (.var 36) .nil))))))))))))) (.var 3))) (.lit 64)) (.lit 0)))
 (.goal (.ite (.eq (.lit 163) (.var 100)) (.ite (.eq (.lit 0) (.var 101)) (.eq (.lit 0) (.var 130)) (.lit 0)) (.lit 0)))
 (.goal (.ite (.eq (.lit 0) (.var 100)) (.ite (.eq (.lit 1) (.var 101)) (.eq (.lit 0) (.var 130)) (.lit 0)) (.lit 0)))))))))))))))
set_option maxHeartbeats 8000000 in
theorem b14_18_ev : finT (gamR behK) (chkL leaf14 (evFn Try.prog C14 20 30 14 (behA 18) [] (pre14 18))) = b14_18T := by kernel_rfl
set_option maxHeartbeats 16000000 in
theorem b14_18_holds (ρ : Env) (H : BehH ρ 18) (hctx : 0 ≤ ρ.i 5 ∧ ρ.i 5 ≤ 256) : b14_18T.Holds ρ := by
  obtain ⟨hI, h3, h4, hM, hR, rg, hV⟩ := H
  simp only [b14_18T, NT.Holds, N.denP, N.den, E.denB, E.den, E.denL, appI, hI, den_right, den_may', den_power, andIte, orIte, eS, eL, eG]
  have v0 := hV 0
  have v1 := hV 1
  have v2 := hV 2
  have v3 := hV 3
  have v4 := hV 4
  have v5 := hV 5
  have v6 := hV 6
  have v7 := hV 7
  have v8 := hV 8
  have v9 := hV 9
  have v10 := hV 10
  have v11 := hV 11
  have v12 := hV 12
  have v13 := hV 13
  have v14 := hV 14
  have v15 := hV 15
  have v16 := hV 16
  have v17 := hV 17
  have v18 := hV 18
  have v19 := hV 19
  have v20 := hV 20
  have v21 := hV 21
  have v22 := hV 22
  have v23 := hV 23
  have v24 := hV 24
  have v25 := hV 25
  have v30 := hV 30
  have v31 := hV 31
  have v32 := hV 32
  have v33 := hV 33
  have v34 := hV 34
  have v35 := hV 35
  have v36 := hV 36
  have v37 := hV 37
  have v38 := hV 38
  have v39 := hV 39
  simp only [Nat.reduceAdd, behE, rng] at v0 v1 v2 v3 v4 v5 v6 v7 v8 v9 v10 v11 v12 v13 v14 v15 v16 v17 v18 v19 v20 v21 v22 v23 v24 v25 v30 v31 v32 v33 v34 v35 v36 v37 v38 v39
  simp only [v0, v1, v2, v3, v4, v5, v6, v7, v8, v9, v10, v11, v12, v13, v14, v15, v16, v17, v18, v19, v20, v21, v22, v23, v24, v25, v30, v31, v32, v33, v34, v35, v36, v37, v38, v39]
  clear hV v0 v1 v2 v3 v4 v5 v6 v7 v8 v9 v10 v11 v12 v13 v14 v15 v16 v17 v18 v19 v20 v21 v22 v23 v24 v25 v30 v31 v32 v33 v34 v35 v36 v37 v38 v39
  have hd1 := hR (ρ.i 1)
  have hq1 := hR (ρ.i 2)
  have rd := rg (ρ.i 1)
  have rq := rg (ρ.i 2)
  clear hR rg
  generalize rS ρ (ρ.i 1) = dS at *
  generalize rL ρ (ρ.i 1) = dL at *
  generalize rG ρ (ρ.i 1) = dG at *
  generalize rS ρ (ρ.i 2) = qS at *
  generalize rL ρ (ρ.i 2) = qL at *
  generalize rG ρ (ρ.i 2) = qG at *
  generalize ρ.i 1 = dst at *
  generalize ρ.i 2 = src at *
  generalize ρ.i 3 = off at *
  generalize ρ.i 4 = imm at *
  generalize ρ.i 5 = ctx at *
  generalize ρ.b 7 = s0 at *
  clear hI
  simp [MayP, useD, useS, useM] at hM
  have f0 := fits_i64 (x := dL + off) (by omega) (by omega)
  have f1 := fits_i64 (x := dG + off) (by omega) (by omega)
  simp [beh, needs, useS, useM, made, fit, codeB, codeK, codeP, f0, f1]
  clear f0 f1
  try (repeat' (first | apply And.intro | intro _))
  all_goals (try omega)
  all_goals (try (first | simp [if_pos (show 0 ≤ dL + off → 64 ≤ dG + off by first | omega | (intro _; omega)), codeP] | simp [if_neg (show ¬ (0 ≤ dL + off → 64 ≤ dG + off) by first | omega | (intro h; have h' := h (by omega); omega)), codeP]))
  all_goals (try omega)
  all_goals (try simp_all [codeP])
  all_goals (try omega)
  all_goals (try (first | exact quo_div (by omega) (by omega) (by omega) | exact mnw (by omega) (by omega) (by omega) (by omega) | exact mxw (by omega) (by omega) (by omega) (by omega) | exact wrap2 (by omega) (by omega) | exact fits_u32 (by omega) (by omega)))
  done
def b14_19T : NT :=
 (.ite (.ite (.lt (.var 5) (.lit 0)) (.lit 1) (.lt (.lit 256) (.var 5)))
 (.goal (.ite (.eq (.lit 2) (.var 100)) (.ite (.eq (.lit 0) (.var 101)) (.eq (.lit 0) (.var 130)) (.lit 0)) (.lit 0)))
 (.goal (.ite (.eq (.lit 0) (.var 100)) (.ite (.eq (.lit 0) (.var 101)) (.eq (.lit 1) (.var 130)) (.lit 0)) (.lit 0))))
set_option maxHeartbeats 8000000 in
theorem b14_19_ev : finT (gamR behK) (chkL leaf14 (evFn Try.prog C14 20 30 14 (behA 19) [] (pre14 19))) = b14_19T := by kernel_rfl
set_option maxHeartbeats 16000000 in
theorem b14_19_holds (ρ : Env) (H : BehH ρ 19) (hctx : 0 ≤ ρ.i 5 ∧ ρ.i 5 ≤ 256) : b14_19T.Holds ρ := by
  obtain ⟨hI, h3, h4, hM, hR, rg, hV⟩ := H
  simp only [b14_19T, NT.Holds, N.denP, N.den, E.denB, E.den, E.denL, appI, hI, den_right, den_may', den_power, andIte, orIte, eS, eL, eG]
  have v0 := hV 0
  have v1 := hV 1
  have v2 := hV 2
  have v3 := hV 3
  have v4 := hV 4
  have v5 := hV 5
  have v6 := hV 6
  have v7 := hV 7
  have v8 := hV 8
  have v9 := hV 9
  have v10 := hV 10
  have v11 := hV 11
  have v12 := hV 12
  have v13 := hV 13
  have v14 := hV 14
  have v15 := hV 15
  have v16 := hV 16
  have v17 := hV 17
  have v18 := hV 18
  have v19 := hV 19
  have v20 := hV 20
  have v21 := hV 21
  have v22 := hV 22
  have v23 := hV 23
  have v24 := hV 24
  have v25 := hV 25
  have v30 := hV 30
  have v31 := hV 31
  have v32 := hV 32
  have v33 := hV 33
  have v34 := hV 34
  have v35 := hV 35
  have v36 := hV 36
  have v37 := hV 37
  have v38 := hV 38
  have v39 := hV 39
  simp only [Nat.reduceAdd, behE, rng] at v0 v1 v2 v3 v4 v5 v6 v7 v8 v9 v10 v11 v12 v13 v14 v15 v16 v17 v18 v19 v20 v21 v22 v23 v24 v25 v30 v31 v32 v33 v34 v35 v36 v37 v38 v39
  simp only [v0, v1, v2, v3, v4, v5, v6, v7, v8, v9, v10, v11, v12, v13, v14, v15, v16, v17, v18, v19, v20, v21, v22, v23, v24, v25, v30, v31, v32, v33, v34, v35, v36, v37, v38, v39]
  clear hV v0 v1 v2 v3 v4 v5 v6 v7 v8 v9 v10 v11 v12 v13 v14 v15 v16 v17 v18 v19 v20 v21 v22 v23 v24 v25 v30 v31 v32 v33 v34 v35 v36 v37 v38 v39
  have hd1 := hR (ρ.i 1)
  have hq1 := hR (ρ.i 2)
  have rd := rg (ρ.i 1)
  have rq := rg (ρ.i 2)
  clear hR rg
  generalize rS ρ (ρ.i 1) = dS at *
  generalize rL ρ (ρ.i 1) = dL at *
  generalize rG ρ (ρ.i 1) = dG at *
  generalize rS ρ (ρ.i 2) = qS at *
  generalize rL ρ (ρ.i 2) = qL at *
  generalize rG ρ (ρ.i 2) = qG at *
  generalize ρ.i 1 = dst at *
  generalize ρ.i 2 = src at *
  generalize ρ.i 3 = off at *
  generalize ρ.i 4 = imm at *
  generalize ρ.i 5 = ctx at *
  generalize ρ.b 7 = s0 at *
  clear hI
  simp [MayP, useD, useS, useM] at hM
  simp [beh, needs, useS, useM, made, fit, codeB, codeK, codeP]
  try (repeat' (first | apply And.intro | intro _))
  all_goals (try omega)
  all_goals (try omega)
  all_goals (try simp_all [codeP])
  all_goals (try omega)
  all_goals (try (first | exact quo_div (by omega) (by omega) (by omega) | exact mnw (by omega) (by omega) (by omega) (by omega) | exact mxw (by omega) (by omega) (by omega) (by omega) | exact wrap2 (by omega) (by omega) | exact fits_u32 (by omega) (by omega)))
  done
def b14_20T : NT :=
 (.ite (.ite (.lt (.var 5) (.lit 0)) (.lit 1) (.lt (.lit 256) (.var 5)))
 (.goal (.ite (.eq (.lit 2) (.var 100)) (.ite (.eq (.lit 0) (.var 101)) (.eq (.lit 0) (.var 130)) (.lit 0)) (.lit 0)))
 (.both (.goal (.le (.lit 0) (.var 1)))
 (.both (.goal (.lt (.var 1) (.lit 10)))
 (.ite (.not (.app (.app 70 (.cons (.var 1) (.cons (.bvar 7) (.cons (.bvar 10) (.cons (.bvar 13) (.cons (.bvar 16) (.cons (.bvar 19) (.cons (.bvar 22) (.cons (.bvar 25) (.cons (.bvar 28) (.cons (.bvar 31) (.cons (.bvar 34) .nil))))))))))))))
 (.goal (.ite (.eq (.lit 161) (.var 100)) (.ite (.eq (.lit 0) (.var 101)) (.eq (.lit 0) (.var 130)) (.lit 0)) (.lit 0)))
 (.both (.goal (.le (.lit 0) (.var 1)))
 (.both (.goal (.lt (.var 1) (.lit 10)))
 (.ite (.ite (.le (.app (.app 70 (.cons (.var 1) (.cons (.var 8) (.cons (.var 11) (.cons (.var 14) (.cons (.var 17) (.cons (.var 20) (.cons (.var 23) (.cons (.var 26) (.cons (.var 29) (.cons (.var 32) (.cons (.var 35) .nil))))))))))))) (.var 4)) (.le (.var 4) (.app (.app 70 (.cons (.var 1) (.cons (.var 9) (.cons (.var 12) (.cons (.var 15) (.cons (.var 18) (.cons (.var 21) (.cons (.var 24) (.cons (.var 27) (.cons (.var 30) (.cons (.var 33) (.cons (.var 36) .nil)))))))))))))) (.lit 0))
 (.both (.goal (.le (.lit 0) (.var 1)))
 (.both (.goal (.lt (.var 1) (.lit 10)))
 (.ite (.ite (.eq (.app (.app 70 (.cons (.var 1) (.cons (.var 8) (.cons (.var 11) (.cons (.var 14) (.cons (.var 17) (.cons (.var 20) (.cons (.var 23) (.cons (.var 26) (.cons (.var 29) (.cons (.var 32) (.cons (.var 35) .nil))))))))))))) (.var 4)) (.eq (.app (.app 70 (.cons (.var 1) (.cons (.var 9) (.cons (.var 12) (.cons (.var 15) (.cons (.var 18) (.cons (.var 21) (.cons (.var 24) (.cons (.var 27) (.cons (.var 30) (.cons (.var 33) (.cons (.var 36) .nil))))))))))))) (.var 4)) (.lit 0))
 (.goal (.ite (.eq (.lit 0) (.var 100)) (.ite (.eq (.lit 0) (.var 101)) (.ite (.eq (.lit 2) (.var 130)) (.ite (.le (.lit 0) (.var 1)) (.ite (.eq (.var 1) (.var 131)) (.ite (.eq (.lit 1) (.var 132)) (.ite (.eq (.var 4) (.var 133)) (.eq (.var 4) (.var 134)) (.lit 0)) (.lit 0)) (.lit 0)) (.lit 0)) (.lit 0)) (.lit 0)) (.lit 0)))
 (.ite (.eq (.var 4) (.app (.app 70 (.cons (.var 1) (.cons (.var 8) (.cons (.var 11) (.cons (.var 14) (.cons (.var 17) (.cons (.var 20) (.cons (.var 23) (.cons (.var 26) (.cons (.var 29) (.cons (.var 32) (.cons (.var 35) .nil))))))))))))))
 (.both (.goal (.le (.lit 0) (.var 1)))
 (.both (.goal (.lt (.var 1) (.lit 10)))
 (.goal (.ite (.eq (.lit 0) (.var 100)) (.ite (.eq (.lit 2) (.var 101)) (.ite (.le (.lit 0) (.var 1)) (.ite (.eq (.var 1) (.var 102)) (.ite (.eq (.lit 1) (.var 103)) (.ite (.eq (.wrap .u32 (.add (.app (.app 70 (.cons (.var 1) (.cons (.var 8) (.cons (.var 11) (.cons (.var 14) (.cons (.var 17) (.cons (.var 20) (.cons (.var 23) (.cons (.var 26) (.cons (.var 29) (.cons (.var 32) (.cons (.var 35) .nil))))))))))))) (.lit 1))) (.var 104)) (.ite (.eq (.app (.app 70 (.cons (.var 1) (.cons (.var 9) (.cons (.var 12) (.cons (.var 15) (.cons (.var 18) (.cons (.var 21) (.cons (.var 24) (.cons (.var 27) (.cons (.var 30) (.cons (.var 33) (.cons (.var 36) .nil))))))))))))) (.var 105)) (.ite (.eq (.lit 2) (.var 130)) (.ite (.le (.lit 0) (.var 1)) (.ite (.eq (.var 1) (.var 131)) (.ite (.eq (.lit 1) (.var 132)) (.ite (.eq (.var 4) (.var 133)) (.eq (.var 4) (.var 134)) (.lit 0)) (.lit 0)) (.lit 0)) (.lit 0)) (.lit 0)) (.lit 0)) (.lit 0)) (.lit 0)) (.lit 0)) (.lit 0)) (.lit 0)) (.lit 0)))))
 (.ite (.eq (.var 4) (.app (.app 70 (.cons (.var 1) (.cons (.var 9) (.cons (.var 12) (.cons (.var 15) (.cons (.var 18) (.cons (.var 21) (.cons (.var 24) (.cons (.var 27) (.cons (.var 30) (.cons (.var 33) (.cons (.var 36) .nil))))))))))))))
 (.both (.goal (.le (.lit 0) (.var 1)))
 (.both (.goal (.lt (.var 1) (.lit 10)))
 (.goal (.ite (.eq (.lit 0) (.var 100)) (.ite (.eq (.lit 2) (.var 101)) (.ite (.le (.lit 0) (.var 1)) (.ite (.eq (.var 1) (.var 102)) (.ite (.eq (.lit 1) (.var 103)) (.ite (.eq (.app (.app 70 (.cons (.var 1) (.cons (.var 8) (.cons (.var 11) (.cons (.var 14) (.cons (.var 17) (.cons (.var 20) (.cons (.var 23) (.cons (.var 26) (.cons (.var 29) (.cons (.var 32) (.cons (.var 35) .nil))))))))))))) (.var 104)) (.ite (.eq (.wrap .u32 (.wrap .u64 (.sub (.app (.app 70 (.cons (.var 1) (.cons (.var 9) (.cons (.var 12) (.cons (.var 15) (.cons (.var 18) (.cons (.var 21) (.cons (.var 24) (.cons (.var 27) (.cons (.var 30) (.cons (.var 33) (.cons (.var 36) .nil))))))))))))) (.lit 1)))) (.var 105)) (.ite (.eq (.lit 2) (.var 130)) (.ite (.le (.lit 0) (.var 1)) (.ite (.eq (.var 1) (.var 131)) (.ite (.eq (.lit 1) (.var 132)) (.ite (.eq (.var 4) (.var 133)) (.eq (.var 4) (.var 134)) (.lit 0)) (.lit 0)) (.lit 0)) (.lit 0)) (.lit 0)) (.lit 0)) (.lit 0)) (.lit 0)) (.lit 0)) (.lit 0)) (.lit 0)) (.lit 0)))))
 (.both (.goal (.le (.lit 0) (.var 1)))
 (.both (.goal (.lt (.var 1) (.lit 10)))
 (.goal (.ite (.eq (.lit 0) (.var 100)) (.ite (.eq (.lit 2) (.var 101)) (.ite (.le (.lit 0) (.var 1)) (.ite (.eq (.var 1) (.var 102)) (.ite (.eq (.lit 1) (.var 103)) (.ite (.eq (.app (.app 70 (.cons (.var 1) (.cons (.var 8) (.cons (.var 11) (.cons (.var 14) (.cons (.var 17) (.cons (.var 20) (.cons (.var 23) (.cons (.var 26) (.cons (.var 29) (.cons (.var 32) (.cons (.var 35) .nil))))))))))))) (.var 104)) (.ite (.eq (.app (.app 70 (.cons (.var 1) (.cons (.var 9) (.cons (.var 12) (.cons (.var 15) (.cons (.var 18) (.cons (.var 21) (.cons (.var 24) (.cons (.var 27) (.cons (.var 30) (.cons (.var 33) (.cons (.var 36) .nil))))))))))))) (.var 105)) (.ite (.eq (.lit 2) (.var 130)) (.ite (.le (.lit 0) (.var 1)) (.ite (.eq (.var 1) (.var 131)) (.ite (.eq (.lit 1) (.var 132)) (.ite (.eq (.var 4) (.var 133)) (.eq (.var 4) (.var 134)) (.lit 0)) (.lit 0)) (.lit 0)) (.lit 0)) (.lit 0)) (.lit 0)) (.lit 0)) (.lit 0)) (.lit 0)) (.lit 0)) (.lit 0)) (.lit 0))))))))))
 (.ite (.ite (.eq (.app (.app 70 (.cons (.var 1) (.cons (.var 8) (.cons (.var 11) (.cons (.var 14) (.cons (.var 17) (.cons (.var 20) (.cons (.var 23) (.cons (.var 26) (.cons (.var 29) (.cons (.var 32) (.cons (.var 35) .nil))))))))))))) (.var 4)) (.eq (.app (.app 70 (.cons (.var 1) (.cons (.var 9) (.cons (.var 12) (.cons (.var 15) (.cons (.var 18) (.cons (.var 21) (.cons (.var 24) (.cons (.var 27) (.cons (.var 30) (.cons (.var 33) (.cons (.var 36) .nil))))))))))))) (.var 4)) (.lit 0))
 (.goal (.ite (.eq (.lit 0) (.var 100)) (.ite (.eq (.lit 0) (.var 101)) (.eq (.lit 0) (.var 130)) (.lit 0)) (.lit 0)))
 (.ite (.eq (.var 4) (.app (.app 70 (.cons (.var 1) (.cons (.var 8) (.cons (.var 11) (.cons (.var 14) (.cons (.var 17) (.cons (.var 20) (.cons (.var 23) (.cons (.var 26) (.cons (.var 29) (.cons (.var 32) (.cons (.var 35) .nil))))))))))))))
 (.both (.goal (.le (.lit 0) (.var 1)))
 (.both (.goal (.lt (.var 1) (.lit 10)))
 (.goal (.ite (.eq (.lit 0) (.var 100)) (.ite (.eq (.lit 2) (.var 101)) (.ite (.le (.lit 0) (.var 1)) (.ite (.eq (.var 1) (.var 102)) (.ite (.eq (.lit 1) (.var 103)) (.ite (.eq (.wrap .u32 (.add (.app (.app 70 (.cons (.var 1) (.cons (.var 8) (.cons (.var 11) (.cons (.var 14) (.cons (.var 17) (.cons (.var 20) (.cons (.var 23) (.cons (.var 26) (.cons (.var 29) (.cons (.var 32) (.cons (.var 35) .nil))))))))))))) (.lit 1))) (.var 104)) (.ite (.eq (.app (.app 70 (.cons (.var 1) (.cons (.var 9) (.cons (.var 12) (.cons (.var 15) (.cons (.var 18) (.cons (.var 21) (.cons (.var 24) (.cons (.var 27) (.cons (.var 30) (.cons (.var 33) (.cons (.var 36) .nil))))))))))))) (.var 105)) (.eq (.lit 0) (.var 130)) (.lit 0)) (.lit 0)) (.lit 0)) (.lit 0)) (.lit 0)) (.lit 0)) (.lit 0)))))
 (.ite (.eq (.var 4) (.app (.app 70 (.cons (.var 1) (.cons (.var 9) (.cons (.var 12) (.cons (.var 15) (.cons (.var 18) (.cons (.var 21) (.cons (.var 24) (.cons (.var 27) (.cons (.var 30) (.cons (.var 33) (.cons (.var 36) .nil))))))))))))))
 (.both (.goal (.le (.lit 0) (.var 1)))
 (.both (.goal (.lt (.var 1) (.lit 10)))
 (.goal (.ite (.eq (.lit 0) (.var 100)) (.ite (.eq (.lit 2) (.var 101)) (.ite (.le (.lit 0) (.var 1)) (.ite (.eq (.var 1) (.var 102)) (.ite (.eq (.lit 1) (.var 103)) (.ite (.eq (.app (.app 70 (.cons (.var 1) (.cons (.var 8) (.cons (.var 11) (.cons (.var 14) (.cons (.var 17) (.cons (.var 20) (.cons (.var 23) (.cons (.var 26) (.cons (.var 29) (.cons (.var 32) (.cons (.var 35) .nil))))))))))))) (.var 104)) (.ite (.eq (.wrap .u32 (.wrap .u64 (.sub (.app (.app 70 (.cons (.var 1) (.cons (.var 9) (.cons (.var 12) (.cons (.var 15) (.cons (.var 18) (.cons (.var 21) (.cons (.var 24) (.cons (.var 27) (.cons (.var 30) (.cons (.var 33) (.cons (.var 36) .nil))))))))))))) (.lit 1)))) (.var 105)) (.eq (.lit 0) (.var 130)) (.lit 0)) (.lit 0)) (.lit 0)) (.lit 0)) (.lit 0)) (.lit 0)) (.lit 0)))))
 (.both (.goal (.le (.lit 0) (.var 1)))
 (.both (.goal (.lt (.var 1) (.lit 10)))
 (.goal (.ite (.eq (.lit 0) (.var 100)) (.ite (.eq (.lit 2) (.var 101)) (.ite (.le (.lit 0) (.var 1)) (.ite (.eq (.var 1) (.var 102)) (.ite (.eq (.lit 1) (.var 103)) (.ite (.eq (.app (.app 70 (.cons (.var 1) (.cons (.var 8) (.cons (.var 11) (.cons (.var 14) (.cons (.var 17) (.cons (.var 20) (.cons (.var 23) (.cons (.var 26) (.cons (.var 29) (.cons (.var 32) (.cons (.var 35) .nil))))))))))))) (.var 104)) (.ite (.eq (.app (.app 70 (.cons (.var 1) (.cons (.var 9) (.cons (.var 12) (.cons (.var 15) (.cons (.var 18) (.cons (.var 21) (.cons (.var 24) (.cons (.var 27) (.cons (.var 30) (.cons (.var 33) (.cons (.var 36) .nil))))))))))))) (.var 105)) (.eq (.lit 0) (.var 130)) (.lit 0)) (.lit 0)) (.lit 0)) (.lit 0)) (.lit 0)) (.lit 0)) (.lit 0)))))))))))))))
set_option maxHeartbeats 8000000 in
theorem b14_20_ev : finT (gamR behK) (chkL leaf14 (evFn Try.prog C14 20 30 14 (behA 20) [] (pre14 20))) = b14_20T := by kernel_rfl
set_option maxHeartbeats 16000000 in
theorem b14_20_holds (ρ : Env) (H : BehH ρ 20) (hctx : 0 ≤ ρ.i 5 ∧ ρ.i 5 ≤ 256) : b14_20T.Holds ρ := by
  obtain ⟨hI, h3, h4, hM, hR, rg, hV⟩ := H
  simp only [b14_20T, NT.Holds, N.denP, N.den, E.denB, E.den, E.denL, appI, hI, den_right, den_may', den_power, andIte, orIte, eS, eL, eG]
  have v0 := hV 0
  have v1 := hV 1
  have v2 := hV 2
  have v3 := hV 3
  have v4 := hV 4
  have v5 := hV 5
  have v6 := hV 6
  have v7 := hV 7
  have v8 := hV 8
  have v9 := hV 9
  have v10 := hV 10
  have v11 := hV 11
  have v12 := hV 12
  have v13 := hV 13
  have v14 := hV 14
  have v15 := hV 15
  have v16 := hV 16
  have v17 := hV 17
  have v18 := hV 18
  have v19 := hV 19
  have v20 := hV 20
  have v21 := hV 21
  have v22 := hV 22
  have v23 := hV 23
  have v24 := hV 24
  have v25 := hV 25
  have v30 := hV 30
  have v31 := hV 31
  have v32 := hV 32
  have v33 := hV 33
  have v34 := hV 34
  have v35 := hV 35
  have v36 := hV 36
  have v37 := hV 37
  have v38 := hV 38
  have v39 := hV 39
  simp only [Nat.reduceAdd, behE, rng] at v0 v1 v2 v3 v4 v5 v6 v7 v8 v9 v10 v11 v12 v13 v14 v15 v16 v17 v18 v19 v20 v21 v22 v23 v24 v25 v30 v31 v32 v33 v34 v35 v36 v37 v38 v39
  simp only [v0, v1, v2, v3, v4, v5, v6, v7, v8, v9, v10, v11, v12, v13, v14, v15, v16, v17, v18, v19, v20, v21, v22, v23, v24, v25, v30, v31, v32, v33, v34, v35, v36, v37, v38, v39]
  clear hV v0 v1 v2 v3 v4 v5 v6 v7 v8 v9 v10 v11 v12 v13 v14 v15 v16 v17 v18 v19 v20 v21 v22 v23 v24 v25 v30 v31 v32 v33 v34 v35 v36 v37 v38 v39
  have hd1 := hR (ρ.i 1)
  have hq1 := hR (ρ.i 2)
  have rd := rg (ρ.i 1)
  have rq := rg (ρ.i 2)
  clear hR rg
  generalize rS ρ (ρ.i 1) = dS at *
  generalize rL ρ (ρ.i 1) = dL at *
  generalize rG ρ (ρ.i 1) = dG at *
  generalize rS ρ (ρ.i 2) = qS at *
  generalize rL ρ (ρ.i 2) = qL at *
  generalize rG ρ (ρ.i 2) = qG at *
  generalize ρ.i 1 = dst at *
  generalize ρ.i 2 = src at *
  generalize ρ.i 3 = off at *
  generalize ρ.i 4 = imm at *
  generalize ρ.i 5 = ctx at *
  generalize ρ.b 7 = s0 at *
  clear hI
  simp [MayP, useD, useS, useM] at hM
  have g0 := @fits_u32 (dL + 1)
  have g1 := @wrap2 (dG - 1)
  simp [beh, needs, useS, useM, made, fit, codeB, codeK, codeP]
  try (repeat' (first | apply And.intro | intro _))
  all_goals (try omega)
  all_goals (try (first | simp [if_pos (show dL = imm ∧ dG = imm by first | omega | (intro _; omega)), codeP] | simp [if_neg (show ¬ (dL = imm ∧ dG = imm) by first | omega | (intro h; have h' := h (by omega); omega)), codeP]))
  all_goals (try (first | simp [if_pos (show dL ≤ imm ∧ imm ≤ dG by first | omega | (intro _; omega)), codeP] | simp [if_neg (show ¬ (dL ≤ imm ∧ imm ≤ dG) by first | omega | (intro h; have h' := h (by omega); omega)), codeP]))
  all_goals (try (first | simp [if_pos (show imm = dL by first | omega | (intro _; omega)), codeP] | simp [if_neg (show ¬ (imm = dL) by first | omega | (intro h; have h' := h (by omega); omega)), codeP]))
  all_goals (try (first | simp [if_pos (show imm = dG by first | omega | (intro _; omega)), codeP] | simp [if_neg (show ¬ (imm = dG) by first | omega | (intro h; have h' := h (by omega); omega)), codeP]))
  all_goals (try omega)
  all_goals (try (clear g0 g1))
  all_goals (try simp_all [codeP])
  all_goals (try omega)
  all_goals (try (first | exact quo_div (by omega) (by omega) (by omega) | exact mnw (by omega) (by omega) (by omega) (by omega) | exact mxw (by omega) (by omega) (by omega) (by omega) | exact wrap2 (by omega) (by omega) | exact fits_u32 (by omega) (by omega)))
  done
def b14_21T : NT :=
 (.ite (.ite (.lt (.var 5) (.lit 0)) (.lit 1) (.lt (.lit 256) (.var 5)))
 (.goal (.ite (.eq (.lit 2) (.var 100)) (.ite (.eq (.lit 0) (.var 101)) (.eq (.lit 0) (.var 130)) (.lit 0)) (.lit 0)))
 (.both (.goal (.le (.lit 0) (.var 1)))
 (.both (.goal (.lt (.var 1) (.lit 10)))
 (.ite (.not (.app (.app 70 (.cons (.var 1) (.cons (.bvar 7) (.cons (.bvar 10) (.cons (.bvar 13) (.cons (.bvar 16) (.cons (.bvar 19) (.cons (.bvar 22) (.cons (.bvar 25) (.cons (.bvar 28) (.cons (.bvar 31) (.cons (.bvar 34) .nil))))))))))))))
 (.goal (.ite (.eq (.lit 161) (.var 100)) (.ite (.eq (.lit 0) (.var 101)) (.eq (.lit 0) (.var 130)) (.lit 0)) (.lit 0)))
 (.both (.goal (.le (.lit 0) (.var 1)))
 (.both (.goal (.lt (.var 1) (.lit 10)))
 (.ite (.lt (.app (.app 70 (.cons (.var 1) (.cons (.var 8) (.cons (.var 11) (.cons (.var 14) (.cons (.var 17) (.cons (.var 20) (.cons (.var 23) (.cons (.var 26) (.cons (.var 29) (.cons (.var 32) (.cons (.var 35) .nil))))))))))))) (.var 4))
 (.both (.goal (.le (.lit 0) (.var 1)))
 (.both (.goal (.lt (.var 1) (.lit 10)))
 (.ite (.le (.var 4) (.app (.app 70 (.cons (.var 1) (.cons (.var 9) (.cons (.var 12) (.cons (.var 15) (.cons (.var 18) (.cons (.var 21) (.cons (.var 24) (.cons (.var 27) (.cons (.var 30) (.cons (.var 33) (.cons (.var 36) .nil))))))))))))))
 (.both (.goal (.le (.lit 0) (.var 1)))
 (.both (.goal (.lt (.var 1) (.lit 10)))
 (.goal (.ite (.eq (.lit 0) (.var 100)) (.ite (.eq (.lit 2) (.var 101)) (.ite (.le (.lit 0) (.var 1)) (.ite (.eq (.var 1) (.var 102)) (.ite (.eq (.lit 1) (.var 103)) (.ite (.eq (.ite (.lt (.app (.app 70 (.cons (.var 1) (.cons (.var 8) (.cons (.var 11) (.cons (.var 14) (.cons (.var 17) (.cons (.var 20) (.cons (.var 23) (.cons (.var 26) (.cons (.var 29) (.cons (.var 32) (.cons (.var 35) .nil))))))))))))) (.var 4)) (.var 4) (.app (.app 70 (.cons (.var 1) (.cons (.var 8) (.cons (.var 11) (.cons (.var 14) (.cons (.var 17) (.cons (.var 20) (.cons (.var 23) (.cons (.var 26) (.cons (.var 29) (.cons (.var 32) (.cons (.var 35) .nil)))))))))))))) (.var 104)) (.ite (.eq (.app (.app 70 (.cons (.var 1) (.cons (.var 9) (.cons (.var 12) (.cons (.var 15) (.cons (.var 18) (.cons (.var 21) (.cons (.var 24) (.cons (.var 27) (.cons (.var 30) (.cons (.var 33) (.cons (.var 36) .nil))))))))))))) (.var 105)) (.ite (.eq (.lit 2) (.var 130)) (.ite (.le (.lit 0) (.var 1)) (.ite (.eq (.var 1) (.var 131)) (.ite (.eq (.lit 1) (.var 132)) (.ite (.eq (.app (.app 70 (.cons (.var 1) (.cons (.var 8) (.cons (.var 11) (.cons (.var 14) (.cons (.var 17) (.cons (.var 20) (.cons (.var 23) (.cons (.var 26) (.cons (.var 29) (.cons (.var 32) (.cons (.var 35) .nil))))))))))))) (.var 133)) (.eq (.wrap .u32 (.ite (.lt (.wrap .u64 (.sub (.var 4) (.lit 1))) (.app (.app 70 (.cons (.var 1) (.cons (.var 9) (.cons (.var 12) (.cons (.var 15) (.cons (.var 18) (.cons (.var 21) (.cons (.var 24) (.cons (.var 27) (.cons (.var 30) (.cons (.var 33) (.cons (.var 36) .nil)))))))))))))) (.wrap .u64 (.sub (.var 4) (.lit 1))) (.app (.app 70 (.cons (.var 1) (.cons (.var 9) (.cons (.var 12) (.cons (.var 15) (.cons (.var 18) (.cons (.var 21) (.cons (.var 24) (.cons (.var 27) (.cons (.var 30) (.cons (.var 33) (.cons (.var 36) .nil))))))))))))))) (.var 134)) (.lit 0)) (.lit 0)) (.lit 0)) (.lit 0)) (.lit 0)) (.lit 0)) (.lit 0)) (.lit 0)) (.lit 0)) (.lit 0)) (.lit 0)) (.lit 0)))))
 (.goal (.ite (.eq (.lit 0) (.var 100)) (.ite (.eq (.lit 0) (.var 101)) (.ite (.eq (.lit 2) (.var 130)) (.ite (.le (.lit 0) (.var 1)) (.ite (.eq (.var 1) (.var 131)) (.ite (.eq (.lit 1) (.var 132)) (.ite (.eq (.app (.app 70 (.cons (.var 1) (.cons (.var 8) (.cons (.var 11) (.cons (.var 14) (.cons (.var 17) (.cons (.var 20) (.cons (.var 23) (.cons (.var 26) (.cons (.var 29) (.cons (.var 32) (.cons (.var 35) .nil))))))))))))) (.var 133)) (.eq (.wrap .u32 (.ite (.lt (.wrap .u64 (.sub (.var 4) (.lit 1))) (.app (.app 70 (.cons (.var 1) (.cons (.var 9) (.cons (.var 12) (.cons (.var 15) (.cons (.var 18) (.cons (.var 21) (.cons (.var 24) (.cons (.var 27) (.cons (.var 30) (.cons (.var 33) (.cons (.var 36) .nil)))))))))))))) (.wrap .u64 (.sub (.var 4) (.lit 1))) (.app (.app 70 (.cons (.var 1) (.cons (.var 9) (.cons (.var 12) (.cons (.var 15) (.cons (.var 18) (.cons (.var 21) (.cons (.var 24) (.cons (.var 27) (.cons (.var 30) (.cons (.var 33) (.cons (.var 36) .nil))))))))))))))) (.var 134)) (.lit 0)) (.lit 0)) (.lit 0)) (.lit 0)) (.lit 0)) (.lit 0)) (.lit 0))))))
 (.ite (.le (.var 4) (.app (.app 70 (.cons (.var 1) (.cons (.var 9) (.cons (.var 12) (.cons (.var 15) (.cons (.var 18) (.cons (.var 21) (.cons (.var 24) (.cons (.var 27) (.cons (.var 30) (.cons (.var 33) (.cons (.var 36) .nil))))))))))))))
 (.both (.goal (.le (.lit 0) (.var 1)))
 (.both (.goal (.lt (.var 1) (.lit 10)))
 (.goal (.ite (.eq (.lit 0) (.var 100)) (.ite (.eq (.lit 2) (.var 101)) (.ite (.le (.lit 0) (.var 1)) (.ite (.eq (.var 1) (.var 102)) (.ite (.eq (.lit 1) (.var 103)) (.ite (.eq (.ite (.lt (.app (.app 70 (.cons (.var 1) (.cons (.var 8) (.cons (.var 11) (.cons (.var 14) (.cons (.var 17) (.cons (.var 20) (.cons (.var 23) (.cons (.var 26) (.cons (.var 29) (.cons (.var 32) (.cons (.var 35) .nil))))))))))))) (.var 4)) (.var 4) (.app (.app 70 (.cons (.var 1) (.cons (.var 8) (.cons (.var 11) (.cons (.var 14) (.cons (.var 17) (.cons (.var 20) (.cons (.var 23) (.cons (.var 26) (.cons (.var 29) (.cons (.var 32) (.cons (.var 35) .nil)))))))))))))) (.var 104)) (.ite (.eq (.app (.app 70 (.cons (.var 1) (.cons (.var 9) (.cons (.var 12) (.cons (.var 15) (.cons (.var 18) (.cons (.var 21) (.cons (.var 24) (.cons (.var 27) (.cons (.var 30) (.cons (.var 33) (.cons (.var 36) .nil))))))))))))) (.var 105)) (.eq (.lit 0) (.var 130)) (.lit 0)) (.lit 0)) (.lit 0)) (.lit 0)) (.lit 0)) (.lit 0)) (.lit 0)))))
 (.goal (.ite (.eq (.lit 0) (.var 100)) (.ite (.eq (.lit 0) (.var 101)) (.eq (.lit 0) (.var 130)) (.lit 0)) (.lit 0)))))))))))
set_option maxHeartbeats 8000000 in
theorem b14_21_ev : finT (gamR behK) (chkL leaf14 (evFn Try.prog C14 20 30 14 (behA 21) [] (pre14 21))) = b14_21T := by kernel_rfl
set_option maxHeartbeats 16000000 in
theorem b14_21_holds (ρ : Env) (H : BehH ρ 21) (hctx : 0 ≤ ρ.i 5 ∧ ρ.i 5 ≤ 256) : b14_21T.Holds ρ := by
  obtain ⟨hI, h3, h4, hM, hR, rg, hV⟩ := H
  simp only [b14_21T, NT.Holds, N.denP, N.den, E.denB, E.den, E.denL, appI, hI, den_right, den_may', den_power, andIte, orIte, eS, eL, eG]
  have v0 := hV 0
  have v1 := hV 1
  have v2 := hV 2
  have v3 := hV 3
  have v4 := hV 4
  have v5 := hV 5
  have v6 := hV 6
  have v7 := hV 7
  have v8 := hV 8
  have v9 := hV 9
  have v10 := hV 10
  have v11 := hV 11
  have v12 := hV 12
  have v13 := hV 13
  have v14 := hV 14
  have v15 := hV 15
  have v16 := hV 16
  have v17 := hV 17
  have v18 := hV 18
  have v19 := hV 19
  have v20 := hV 20
  have v21 := hV 21
  have v22 := hV 22
  have v23 := hV 23
  have v24 := hV 24
  have v25 := hV 25
  have v30 := hV 30
  have v31 := hV 31
  have v32 := hV 32
  have v33 := hV 33
  have v34 := hV 34
  have v35 := hV 35
  have v36 := hV 36
  have v37 := hV 37
  have v38 := hV 38
  have v39 := hV 39
  simp only [Nat.reduceAdd, behE, rng] at v0 v1 v2 v3 v4 v5 v6 v7 v8 v9 v10 v11 v12 v13 v14 v15 v16 v17 v18 v19 v20 v21 v22 v23 v24 v25 v30 v31 v32 v33 v34 v35 v36 v37 v38 v39
  simp only [v0, v1, v2, v3, v4, v5, v6, v7, v8, v9, v10, v11, v12, v13, v14, v15, v16, v17, v18, v19, v20, v21, v22, v23, v24, v25, v30, v31, v32, v33, v34, v35, v36, v37, v38, v39]
  clear hV v0 v1 v2 v3 v4 v5 v6 v7 v8 v9 v10 v11 v12 v13 v14 v15 v16 v17 v18 v19 v20 v21 v22 v23 v24 v25 v30 v31 v32 v33 v34 v35 v36 v37 v38 v39
  have hd1 := hR (ρ.i 1)
  have hq1 := hR (ρ.i 2)
  have rd := rg (ρ.i 1)
  have rq := rg (ρ.i 2)
  clear hR rg
  generalize rS ρ (ρ.i 1) = dS at *
  generalize rL ρ (ρ.i 1) = dL at *
  generalize rG ρ (ρ.i 1) = dG at *
  generalize rS ρ (ρ.i 2) = qS at *
  generalize rL ρ (ρ.i 2) = qL at *
  generalize rG ρ (ρ.i 2) = qG at *
  generalize ρ.i 1 = dst at *
  generalize ρ.i 2 = src at *
  generalize ρ.i 3 = off at *
  generalize ρ.i 4 = imm at *
  generalize ρ.i 5 = ctx at *
  generalize ρ.b 7 = s0 at *
  clear hI
  simp [MayP, useD, useS, useM] at hM
  have f0 := cif_mx dL imm
  have g0 := fun h => mnw (a := imm) (b := dG) h (by omega) (by omega) (by omega)
  simp [beh, needs, useS, useM, made, fit, codeB, codeK, codeP, f0]
  clear f0
  try (repeat' (first | apply And.intro | intro _))
  all_goals (try omega)
  all_goals (try (first | simp [if_pos (show imm ≤ dG by first | omega | (intro _; omega)), codeP] | simp [if_neg (show ¬ (imm ≤ dG) by first | omega | (intro h; have h' := h (by omega); omega)), codeP]))
  all_goals (try (first | simp [if_pos (show dL < imm by first | omega | (intro _; omega)), codeP] | simp [if_neg (show ¬ (dL < imm) by first | omega | (intro h; have h' := h (by omega); omega)), codeP]))
  all_goals (try omega)
  all_goals (try (clear g0))
  all_goals (try simp_all [codeP])
  all_goals (try omega)
  all_goals (try (first | exact quo_div (by omega) (by omega) (by omega) | exact mnw (by omega) (by omega) (by omega) (by omega) | exact mxw (by omega) (by omega) (by omega) (by omega) | exact wrap2 (by omega) (by omega) | exact fits_u32 (by omega) (by omega)))
  done
def b14_22T : NT :=
 (.ite (.ite (.lt (.var 5) (.lit 0)) (.lit 1) (.lt (.lit 256) (.var 5)))
 (.goal (.ite (.eq (.lit 2) (.var 100)) (.ite (.eq (.lit 0) (.var 101)) (.eq (.lit 0) (.var 130)) (.lit 0)) (.lit 0)))
 (.both (.goal (.le (.lit 0) (.var 1)))
 (.both (.goal (.lt (.var 1) (.lit 10)))
 (.ite (.not (.app (.app 70 (.cons (.var 1) (.cons (.bvar 7) (.cons (.bvar 10) (.cons (.bvar 13) (.cons (.bvar 16) (.cons (.bvar 19) (.cons (.bvar 22) (.cons (.bvar 25) (.cons (.bvar 28) (.cons (.bvar 31) (.cons (.bvar 34) .nil))))))))))))))
 (.goal (.ite (.eq (.lit 161) (.var 100)) (.ite (.eq (.lit 0) (.var 101)) (.eq (.lit 0) (.var 130)) (.lit 0)) (.lit 0)))
 (.both (.goal (.le (.lit 0) (.var 1)))
 (.both (.goal (.lt (.var 1) (.lit 10)))
 (.both (.goal (.le (.lit 0) (.var 2)))
 (.both (.goal (.lt (.var 2) (.lit 10)))
 (.ite (.not (.app (.app 70 (.cons (.var 2) (.cons (.bvar 7) (.cons (.bvar 10) (.cons (.bvar 13) (.cons (.bvar 16) (.cons (.bvar 19) (.cons (.bvar 22) (.cons (.bvar 25) (.cons (.bvar 28) (.cons (.bvar 31) (.cons (.bvar 34) .nil))))))))))))))
 (.goal (.ite (.eq (.lit 161) (.var 100)) (.ite (.eq (.lit 0) (.var 101)) (.eq (.lit 0) (.var 130)) (.lit 0)) (.lit 0)))
 (.both (.goal (.le (.lit 0) (.var 2)))
 (.both (.goal (.lt (.var 2) (.lit 10)))
 (.ite (.eq (.var 1) (.var 2))
 (.goal (.ite (.eq (.lit 0) (.var 100)) (.ite (.eq (.lit 1) (.var 101)) (.eq (.lit 0) (.var 130)) (.lit 0)) (.lit 0)))
 (.ite (.lt (.app (.app 70 (.cons (.var 1) (.cons (.var 8) (.cons (.var 11) (.cons (.var 14) (.cons (.var 17) (.cons (.var 20) (.cons (.var 23) (.cons (.var 26) (.cons (.var 29) (.cons (.var 32) (.cons (.var 35) .nil))))))))))))) (.app (.app 70 (.cons (.var 2) (.cons (.var 9) (.cons (.var 12) (.cons (.var 15) (.cons (.var 18) (.cons (.var 21) (.cons (.var 24) (.cons (.var 27) (.cons (.var 30) (.cons (.var 33) (.cons (.var 36) .nil))))))))))))))
 (.both (.goal (.le (.lit 0) (.var 1)))
 (.both (.goal (.lt (.var 1) (.lit 10)))
 (.both (.goal (.le (.lit 0) (.var 2)))
 (.both (.goal (.lt (.var 2) (.lit 10)))
 (.ite (.le (.app (.app 70 (.cons (.var 2) (.cons (.var 8) (.cons (.var 11) (.cons (.var 14) (.cons (.var 17) (.cons (.var 20) (.cons (.var 23) (.cons (.var 26) (.cons (.var 29) (.cons (.var 32) (.cons (.var 35) .nil))))))))))))) (.app (.app 70 (.cons (.var 1) (.cons (.var 9) (.cons (.var 12) (.cons (.var 15) (.cons (.var 18) (.cons (.var 21) (.cons (.var 24) (.cons (.var 27) (.cons (.var 30) (.cons (.var 33) (.cons (.var 36) .nil))))))))))))))
 (.both (.goal (.le (.lit 0) (.var 1)))
 (.both (.goal (.lt (.var 1) (.lit 10)))
 (.both (.goal (.le (.lit 0) (.var 2)))
 (.both (.goal (.lt (.var 2) (.lit 10)))
 (.goal (.ite (.eq (.lit 0) (.var 100)) (.ite (.eq (.lit 3) (.var 101)) (.ite (.le (.lit 0) (.var 1)) (.ite (.eq (.var 1) (.var 102)) (.ite (.eq (.lit 1) (.var 103)) (.ite (.eq (.ite (.lt (.app (.app 70 (.cons (.var 1) (.cons (.var 8) (.cons (.var 11) (.cons (.var 14) (.cons (.var 17) (.cons (.var 20) (.cons (.var 23) (.cons (.var 26) (.cons (.var 29) (.cons (.var 32) (.cons (.var 35) .nil))))))))))))) (.app (.app 70 (.cons (.var 2) (.cons (.var 8) (.cons (.var 11) (.cons (.var 14) (.cons (.var 17) (.cons (.var 20) (.cons (.var 23) (.cons (.var 26) (.cons (.var 29) (.cons (.var 32) (.cons (.var 35) .nil)))))))))))))) (.app (.app 70 (.cons (.var 2) (.cons (.var 8) (.cons (.var 11) (.cons (.var 14) (.cons (.var 17) (.cons (.var 20) (.cons (.var 23) (.cons (.var 26) (.cons (.var 29) (.cons (.var 32) (.cons (.var 35) .nil))))))))))))) (.app (.app 70 (.cons (.var 1) (.cons (.var 8) (.cons (.var 11) (.cons (.var 14) (.cons (.var 17) (.cons (.var 20) (.cons (.var 23) (.cons (.var 26) (.cons (.var 29) (.cons (.var 32) (.cons (.var 35) .nil)))))))))))))) (.var 104)) (.ite (.eq (.app (.app 70 (.cons (.var 1) (.cons (.var 9) (.cons (.var 12) (.cons (.var 15) (.cons (.var 18) (.cons (.var 21) (.cons (.var 24) (.cons (.var 27) (.cons (.var 30) (.cons (.var 33) (.cons (.var 36) .nil))))))))))))) (.var 105)) (.ite (.le (.lit 0) (.var 2)) (.ite (.eq (.var 2) (.var 106)) (.ite (.eq (.lit 1) (.var 107)) (.ite (.eq (.app (.app 70 (.cons (.var 2) (.cons (.var 8) (.cons (.var 11) (.cons (.var 14) (.cons (.var 17) (.cons (.var 20) (.cons (.var 23) (.cons (.var 26) (.cons (.var 29) (.cons (.var 32) (.cons (.var 35) .nil))))))))))))) (.var 108)) (.ite (.eq (.ite (.lt (.app (.app 70 (.cons (.var 1) (.cons (.var 9) (.cons (.var 12) (.cons (.var 15) (.cons (.var 18) (.cons (.var 21) (.cons (.var 24) (.cons (.var 27) (.cons (.var 30) (.cons (.var 33) (.cons (.var 36) .nil))))))))))))) (.app (.app 70 (.cons (.var 2) (.cons (.var 9) (.cons (.var 12) (.cons (.var 15) (.cons (.var 18) (.cons (.var 21) (.cons (.var 24) (.cons (.var 27) (.cons (.var 30) (.cons (.var 33) (.cons (.var 36) .nil)))))))))))))) (.app (.app 70 (.cons (.var 1) (.cons (.var 9) (.cons (.var 12) (.cons (.var 15) (.cons (.var 18) (.cons (.var 21) (.cons (.var 24) (.cons (.var 27) (.cons (.var 30) (.cons (.var 33) (.cons (.var 36) .nil))))))))))))) (.app (.app 70 (.cons (.var 2) (.cons (.var 9) (.cons (.var 12) (.cons (.var 15) (.cons (.var 18) (.cons (.var 21) (.cons (.var 24) (.cons (.var 27) (.cons (.var 30) (.cons (.var 33) (.cons (.var 36) .nil)))))))))))))) (.var 109)) (.ite (.eq (.lit 3) (.var 130)) (.ite (.le (.lit 0) (.var 1)) (.ite (.eq (.var 1) (.var 131)) (.ite (.eq (.lit 1) (.var 132)) (.ite (.eq (.app (.app 70 (.cons (.var 1) (.cons (.var 8) (.cons (.var 11) (.cons (.var 14) (.cons (.var 17) (.cons (.var 20) (.cons (.var 23) (.cons (.var 26) (.cons (.var 29) (.cons (.var 32) (.cons (.var 35) .nil))))))))))))) (.var 133)) (.ite (.eq (.wrap .u32 (.ite (.lt (.wrap .u64 (.sub (.app (.app 70 (.cons (.var 2) (.cons (.var 9) (.cons (.var 12) (.cons (.var 15) (.cons (.var 18) (.cons (.var 21) (.cons (.var 24) (.cons (.var 27) (.cons (.var 30) (.cons (.var 33) (.cons (.var 36) .nil))))))))))))) (.lit 1))) (.app (.app 70 (.cons (.var 1) (.cons (.var 9) (.cons (.var 12) (.cons (.var 15) (.cons (.var 18) (.cons (.var 21) (.cons (.var 24) (.cons (.var 27) (.cons (.var 30) (.cons (.var 33) (.cons (.var 36) .nil)))))))))))))) (.wrap .u64 (.sub (.app (.app 70 (.cons (.var 2) (.cons (.var 9) (.cons (.var 12) (.cons (.var 15) (.cons (.var 18) (.cons (.var 21) (.cons (.var 24) (.cons (.var 27) (.cons (.var 30) (.cons (.var 33) (.cons (.var 36) .nil))))))))))))) (.lit 1))) (.app (.app 70 (.cons (.var 1) (.cons (.var 9) (.cons (.var 12) (.cons (.var 15) (.cons (.var 18) (.cons (.var 21) (.cons (.var 24) (.cons (.var 27) (.cons (.var 30) (.cons (.var 33) (.cons (.var 36) .nil))))))))))))))) (.var 134)) (.ite (.le (.lit 0) (.var 2)) (.ite (.eq (.var 2) (.var 135)) (.ite (.eq (.lit 1) (.var 136)) (.ite (.eq (.wrap .u32 (.ite (.lt (.app (.app 70 (.cons (.var 2) (.cons (.var 8) (.cons (.var 11) (.cons (.var 14) (.cons (.var 17) (.cons (.var 20) (.cons (.var 23) (.cons (.var 26) (.cons (.var 29) (.cons (.var 32) (.cons (.var 35) .nil))))))))))))) (.add (.app (.app 70 (.cons (.var 1) (.cons (.var 8) (.cons (.var 11) (.cons (.var 14) (.cons (.var 17) (.cons (.var 20) (.cons (.var 23) (.cons (.var 26) (.cons (.var 29) (.cons (.var 32) (.cons (.var 35) .nil))))))))))))) (.lit 1))) (.add (.app (.app 70 (.cons (.var 1) (.cons (.var 8) (.cons (.var 11) (.cons (.var 14) (.cons (.var 17) (.cons (.var 20) (.cons (.var 23) (.cons (.var 26) (.cons (.var 29) (.cons (.var 32) (.cons (.var 35) .nil))))))))))))) (.lit 1)) (.app (.app 70 (.cons (.var 2) (.cons (.var 8) (.cons (.var 11) (.cons (.var 14) (.cons (.var 17) (.cons (.var 20) (.cons (.var 23) (.cons (.var 26) (.cons (.var 29) (.cons (.var 32) (.cons (.var 35) .nil))))))))))))))) (.var 137)) (.eq (.app (.app 70 (.cons (.var 2) (.cons (.var 9) (.cons (.var 12) (.cons (.var 15) (.cons (.var 18) (.cons (.var 21) (.cons (.var 24) (.cons (.var 27) (.cons (.var 30) (.cons (.var 33) (.cons (.var 36) .nil))))))))))))) (.var 138)) (.lit 0)) (.lit 0)) (.lit 0)) (.lit 0)) (.lit 0)) (.lit 0)) (.lit 0)) (.lit 0)) (.lit 0)) (.lit 0)) (.lit 0)) (.lit 0)) (.lit 0)) (.lit 0)) (.lit 0)) (.lit 0)) (.lit 0)) (.lit 0)) (.lit 0)) (.lit 0)) (.lit 0)) (.lit 0)))))))
 (.goal (.ite (.eq (.lit 0) (.var 100)) (.ite (.eq (.lit 0) (.var 101)) (.ite (.eq (.lit 3) (.var 130)) (.ite (.le (.lit 0) (.var 1)) (.ite (.eq (.var 1) (.var 131)) (.ite (.eq (.lit 1) (.var 132)) (.ite (.eq (.app (.app 70 (.cons (.var 1) (.cons (.var 8) (.cons (.var 11) (.cons (.var 14) (.cons (.var 17) (.cons (.var 20) (.cons (.var 23) (.cons (.var 26) (.cons (.var 29) (.cons (.var 32) (.cons (.var 35) .nil))))))))))))) (.var 133)) (.ite (.eq (.wrap .u32 (.ite (.lt (.wrap .u64 (.sub (.app (.app 70 (.cons (.var 2) (.cons (.var 9) (.cons (.var 12) (.cons (.var 15) (.cons (.var 18) (.cons (.var 21) (.cons (.var 24) (.cons (.var 27) (.cons (.var 30) (.cons (.var 33) (.cons (.var 36) .nil))))))))))))) (.lit 1))) (.app (.app 70 (.cons (.var 1) (.cons (.var 9) (.cons (.var 12) (.cons (.var 15) (.cons (.var 18) (.cons (.var 21) (.cons (.var 24) (.cons (.var 27) (.cons (.var 30) (.cons (.var 33) (.cons (.var 36) .nil)))))))))))))) (.wrap .u64 (.sub (.app (.app 70 (.cons (.var 2) (.cons (.var 9) (.cons (.var 12) (.cons (.var 15) (.cons (.var 18) (.cons (.var 21) (.cons (.var 24) (.cons (.var 27) (.cons (.var 30) (.cons (.var 33) (.cons (.var 36) .nil))))))))))))) (.lit 1))) (.app (.app 70 (.cons (.var 1) (.cons (.var 9) (.cons (.var 12) (.cons (.var 15) (.cons (.var 18) (.cons (.var 21) (.cons (.var 24) (.cons (.var 27) (.cons (.var 30) (.cons (.var 33) (.cons (.var 36) .nil))))))))))))))) (.var 134)) (.ite (.le (.lit 0) (.var 2)) (.ite (.eq (.var 2) (.var 135)) (.ite (.eq (.lit 1) (.var 136)) (.ite (.eq (.wrap .u32 (.ite (.lt (.app (.app 70 (.cons (.var 2) (.cons (.var 8) (.cons (.var 11) (.cons (.var 14) (.cons (.var 17) (.cons (.var 20) (.cons (.var 23) (.cons (.var 26) (.cons (.var 29) (.cons (.var 32) (.cons (.var 35) .nil))))))))))))) (.add (.app (.app 70 (.cons (.var 1) (.cons (.var 8) (.cons (.var 11) (.cons (.var 14) (.cons (.var 17) (.cons (.var 20) (.cons (.var 23) (.cons (.var 26) (.cons (.var 29) (.cons (.var 32) (.cons (.var 35) .nil))))))))))))) (.lit 1))) (.add (.app (.app 70 (.cons (.var 1) (.cons (.var 8) (.cons (.var 11) (.cons (.var 14) (.cons (.var 17) (.cons (.var 20) (.cons (.var 23) (.cons (.var 26) (.cons (.var 29) (.cons (.var 32) (.cons (.var 35) .nil))))))))))))) (.lit 1)) (.app (.app 70 (.cons (.var 2) (.cons (.var 8) (.cons (.var 11) (.cons (.var 14) (.cons (.var 17) (.cons (.var 20) (.cons (.var 23) (.cons (.var 26) (.cons (.var 29) (.cons (.var 32) (.cons (.var 35) .nil))))))))))))))) (.var 137)) (.eq (.app (.app 70 (.cons (.var 2) (.cons (.var 9) (.cons (.var 12) (.cons (.var 15) (.cons (.var 18) (.cons (.var 21) (.cons (.var 24) (.cons (.var 27) (.cons (.var 30) (.cons (.var 33) (.cons (.var 36) .nil))))))))))))) (.var 138)) (.lit 0)) (.lit 0)) (.lit 0)) (.lit 0)) (.lit 0)) (.lit 0)) (.lit 0)) (.lit 0)) (.lit 0)) (.lit 0)) (.lit 0)) (.lit 0))))))))
 (.ite (.le (.app (.app 70 (.cons (.var 2) (.cons (.var 8) (.cons (.var 11) (.cons (.var 14) (.cons (.var 17) (.cons (.var 20) (.cons (.var 23) (.cons (.var 26) (.cons (.var 29) (.cons (.var 32) (.cons (.var 35) .nil))))))))))))) (.app (.app 70 (.cons (.var 1) (.cons (.var 9) (.cons (.var 12) (.cons (.var 15) (.cons (.var 18) (.cons (.var 21) (.cons (.var 24) (.cons (.var 27) (.cons (.var 30) (.cons (.var 33) (.cons (.var 36) .nil))))))))))))))
 (.both (.goal (.le (.lit 0) (.var 1)))
 (.both (.goal (.lt (.var 1) (.lit 10)))
 (.both (.goal (.le (.lit 0) (.var 2)))
 (.both (.goal (.lt (.var 2) (.lit 10)))
 (.goal (.ite (.eq (.lit 0) (.var 100)) (.ite (.eq (.lit 3) (.var 101)) (.ite (.le (.lit 0) (.var 1)) (.ite (.eq (.var 1) (.var 102)) (.ite (.eq (.lit 1) (.var 103)) (.ite (.eq (.ite (.lt (.app (.app 70 (.cons (.var 1) (.cons (.var 8) (.cons (.var 11) (.cons (.var 14) (.cons (.var 17) (.cons (.var 20) (.cons (.var 23) (.cons (.var 26) (.cons (.var 29) (.cons (.var 32) (.cons (.var 35) .nil))))))))))))) (.app (.app 70 (.cons (.var 2) (.cons (.var 8) (.cons (.var 11) (.cons (.var 14) (.cons (.var 17) (.cons (.var 20) (.cons (.var 23) (.cons (.var 26) (.cons (.var 29) (.cons (.var 32) (.cons (.var 35) .nil)))))))))))))) (.app (.app 70 (.cons (.var 2) (.cons (.var 8) (.cons (.var 11) (.cons (.var 14) (.cons (.var 17) (.cons (.var 20) (.cons (.var 23) (.cons (.var 26) (.cons (.var 29) (.cons (.var 32) (.cons (.var 35) .nil))))))))))))) (.app (.app 70 (.cons (.var 1) (.cons (.var 8) (.cons (.var 11) (.cons (.var 14) (.cons (.var 17) (.cons (.var 20) (.cons (.var 23) (.cons (.var 26) (.cons (.var 29) (.cons (.var 32) (.cons (.var 35) .nil)))))))))))))) (.var 104)) (.ite (.eq (.app (.app 70 (.cons (.var 1) (.cons (.var 9) (.cons (.var 12) (.cons (.var 15) (.cons (.var 18) (.cons (.var 21) (.cons (.var 24) (.cons (.var 27) (.cons (.var 30) (.cons (.var 33) (.cons (.var 36) .nil))))))))))))) (.var 105)) (.ite (.le (.lit 0) (.var 2)) (.ite (.eq (.var 2) (.var 106)) (.ite (.eq (.lit 1) (.var 107)) (.ite (.eq (.app (.app 70 (.cons (.var 2) (.cons (.var 8) (.cons (.var 11) (.cons (.var 14) (.cons (.var 17) (.cons (.var 20) (.cons (.var 23) (.cons (.var 26) (.cons (.var 29) (.cons (.var 32) (.cons (.var 35) .nil))))))))))))) (.var 108)) (.ite (.eq (.ite (.lt (.app (.app 70 (.cons (.var 1) (.cons (.var 9) (.cons (.var 12) (.cons (.var 15) (.cons (.var 18) (.cons (.var 21) (.cons (.var 24) (.cons (.var 27) (.cons (.var 30) (.cons (.var 33) (.cons (.var 36) .nil))))))))))))) (.app (.app 70 (.cons (.var 2) (.cons (.var 9) (.cons (.var 12) (.cons (.var 15) (.cons (.var 18) (.cons (.var 21) (.cons (.var 24) (.cons (.var 27) (.cons (.var 30) (.cons (.var 33) (.cons (.var 36) .nil)))))))))))))) (.app (.app 70 (.cons (.var 1) (.cons (.var 9) (.cons (.var 12) (.cons (.var 15) (.cons (.var 18) (.cons (.var 21) (.cons (.var 24) (.cons (.var 27) (.cons (.var 30) (.cons (.var 33) (.cons (.var 36) .nil))))))))))))) (.app (.app 70 (.cons (.var 2) (.cons (.var 9) (.cons (.var 12) (.cons (.var 15) (.cons (.var 18) (.cons (.var 21) (.cons (.var 24) (.cons (.var 27) (.cons (.var 30) (.cons (.var 33) (.cons (.var 36) .nil)))))))))))))) (.var 109)) (.eq (.lit 0) (.var 130)) (.lit 0)) (.lit 0)) (.lit 0)) (.lit 0)) (.lit 0)) (.lit 0)) (.lit 0)) (.lit 0)) (.lit 0)) (.lit 0)) (.lit 0)) (.lit 0)))))))
 (.goal (.ite (.eq (.lit 0) (.var 100)) (.ite (.eq (.lit 0) (.var 101)) (.eq (.lit 0) (.var 130)) (.lit 0)) (.lit 0)))))))))))))))))
set_option maxHeartbeats 8000000 in
theorem b14_22_ev : finT (gamR behK) (chkL leaf14 (evFn Try.prog C14 20 30 14 (behA 22) [] (pre14 22))) = b14_22T := by kernel_rfl
set_option maxHeartbeats 16000000 in
theorem b14_22_holds (ρ : Env) (H : BehH ρ 22) (hctx : 0 ≤ ρ.i 5 ∧ ρ.i 5 ≤ 256) : b14_22T.Holds ρ := by
  obtain ⟨hI, h3, h4, hM, hR, rg, hV⟩ := H
  simp only [b14_22T, NT.Holds, N.denP, N.den, E.denB, E.den, E.denL, appI, hI, den_right, den_may', den_power, andIte, orIte, eS, eL, eG]
  have v0 := hV 0
  have v1 := hV 1
  have v2 := hV 2
  have v3 := hV 3
  have v4 := hV 4
  have v5 := hV 5
  have v6 := hV 6
  have v7 := hV 7
  have v8 := hV 8
  have v9 := hV 9
  have v10 := hV 10
  have v11 := hV 11
  have v12 := hV 12
  have v13 := hV 13
  have v14 := hV 14
  have v15 := hV 15
  have v16 := hV 16
  have v17 := hV 17
  have v18 := hV 18
  have v19 := hV 19
  have v20 := hV 20
  have v21 := hV 21
  have v22 := hV 22
  have v23 := hV 23
  have v24 := hV 24
  have v25 := hV 25
  have v30 := hV 30
  have v31 := hV 31
  have v32 := hV 32
  have v33 := hV 33
  have v34 := hV 34
  have v35 := hV 35
  have v36 := hV 36
  have v37 := hV 37
  have v38 := hV 38
  have v39 := hV 39
  simp only [Nat.reduceAdd, behE, rng] at v0 v1 v2 v3 v4 v5 v6 v7 v8 v9 v10 v11 v12 v13 v14 v15 v16 v17 v18 v19 v20 v21 v22 v23 v24 v25 v30 v31 v32 v33 v34 v35 v36 v37 v38 v39
  simp only [v0, v1, v2, v3, v4, v5, v6, v7, v8, v9, v10, v11, v12, v13, v14, v15, v16, v17, v18, v19, v20, v21, v22, v23, v24, v25, v30, v31, v32, v33, v34, v35, v36, v37, v38, v39]
  clear hV v0 v1 v2 v3 v4 v5 v6 v7 v8 v9 v10 v11 v12 v13 v14 v15 v16 v17 v18 v19 v20 v21 v22 v23 v24 v25 v30 v31 v32 v33 v34 v35 v36 v37 v38 v39
  have hd1 := hR (ρ.i 1)
  have hq1 := hR (ρ.i 2)
  have rd := rg (ρ.i 1)
  have rq := rg (ρ.i 2)
  clear hR rg
  generalize rS ρ (ρ.i 1) = dS at *
  generalize rL ρ (ρ.i 1) = dL at *
  generalize rG ρ (ρ.i 1) = dG at *
  generalize rS ρ (ρ.i 2) = qS at *
  generalize rL ρ (ρ.i 2) = qL at *
  generalize rG ρ (ρ.i 2) = qG at *
  generalize ρ.i 1 = dst at *
  generalize ρ.i 2 = src at *
  generalize ρ.i 3 = off at *
  generalize ρ.i 4 = imm at *
  generalize ρ.i 5 = ctx at *
  generalize ρ.b 7 = s0 at *
  clear hI
  simp [MayP, useD, useS, useM] at hM
  have f0 := cif_mx dL qL
  have f1 := cif_mn qG dG
  have g0 := fun h => mnw (a := qG) (b := dG) h (by omega) (by omega) (by omega)
  have g1 := fun h => mxw (a := dL) (b := qL) (by omega) h (by omega) (by omega)
  simp [beh, needs, useS, useM, made, fit, codeB, codeK, codeP, f0, f1]
  clear f0 f1
  try (repeat' (first | apply And.intro | intro _))
  all_goals (try omega)
  all_goals (try (first | simp [if_pos (show qL ≤ dG by first | omega | (intro _; omega)), codeP] | simp [if_neg (show ¬ (qL ≤ dG) by first | omega | (intro h; have h' := h (by omega); omega)), codeP]))
  all_goals (try (first | simp [if_pos (show dL < qG by first | omega | (intro _; omega)), codeP] | simp [if_neg (show ¬ (dL < qG) by first | omega | (intro h; have h' := h (by omega); omega)), codeP]))
  all_goals (try (first | simp [if_pos (show dst = src by first | omega | (intro _; omega)), codeP] | simp [if_neg (show ¬ (dst = src) by first | omega | (intro h; have h' := h (by omega); omega)), codeP]))
  all_goals (try omega)
  all_goals (try (clear g0 g1))
  all_goals (try simp_all [codeP])
  all_goals (try omega)
  all_goals (try (first | exact quo_div (by omega) (by omega) (by omega) | exact mnw (by omega) (by omega) (by omega) (by omega) | exact mxw (by omega) (by omega) (by omega) (by omega) | exact wrap2 (by omega) (by omega) | exact fits_u32 (by omega) (by omega)))
  done
def b14_23T : NT :=
 (.ite (.ite (.lt (.var 5) (.lit 0)) (.lit 1) (.lt (.lit 256) (.var 5)))
 (.goal (.ite (.eq (.lit 2) (.var 100)) (.ite (.eq (.lit 0) (.var 101)) (.eq (.lit 0) (.var 130)) (.lit 0)) (.lit 0)))
 (.goal (.ite (.eq (.lit 0) (.var 100)) (.ite (.eq (.lit 7) (.var 101)) (.ite (.eq (.lit 5) (.var 102)) (.ite (.eq (.lit 0) (.var 103)) (.ite (.eq (.lit 0) (.var 104)) (.ite (.eq (.lit 0) (.var 105)) (.ite (.eq (.lit 4) (.var 106)) (.ite (.eq (.lit 0) (.var 107)) (.ite (.eq (.lit 0) (.var 108)) (.ite (.eq (.lit 0) (.var 109)) (.ite (.eq (.lit 3) (.var 110)) (.ite (.eq (.lit 0) (.var 111)) (.ite (.eq (.lit 0) (.var 112)) (.ite (.eq (.lit 0) (.var 113)) (.ite (.eq (.lit 2) (.var 114)) (.ite (.eq (.lit 0) (.var 115)) (.ite (.eq (.lit 0) (.var 116)) (.ite (.eq (.lit 0) (.var 117)) (.ite (.eq (.lit 1) (.var 118)) (.ite (.eq (.lit 0) (.var 119)) (.ite (.eq (.lit 0) (.var 120)) (.ite (.eq (.lit 0) (.var 121)) (.ite (.eq (.lit 0) (.var 122)) (.ite (.eq (.lit 1) (.var 123)) (.ite (.eq (.lit 0) (.var 124)) (.ite (.eq (.lit 4294967295) (.var 125)) (.eq (.lit 0) (.var 130)) (.lit 0)) (.lit 0)) (.lit 0)) (.lit 0)) (.lit 0)) (.lit 0)) (.lit 0)) (.lit 0)) (.lit 0)) (.lit 0)) (.lit 0)) (.lit 0)) (.lit 0)) (.lit 0)) (.lit 0)) (.lit 0)) (.lit 0)) (.lit 0)) (.lit 0)) (.lit 0)) (.lit 0)) (.lit 0)) (.lit 0)) (.lit 0)) (.lit 0)) (.lit 0))))
set_option maxHeartbeats 8000000 in
theorem b14_23_ev : finT (gamR behK) (chkL leaf14 (evFn Try.prog C14 20 30 14 (behA 23) [] (pre14 23))) = b14_23T := by kernel_rfl
set_option maxHeartbeats 16000000 in
theorem b14_23_holds (ρ : Env) (H : BehH ρ 23) (hctx : 0 ≤ ρ.i 5 ∧ ρ.i 5 ≤ 256) : b14_23T.Holds ρ := by
  obtain ⟨hI, h3, h4, hM, hR, rg, hV⟩ := H
  simp only [b14_23T, NT.Holds, N.denP, N.den, E.denB, E.den, E.denL, appI, hI, den_right, den_may', den_power, andIte, orIte, eS, eL, eG]
  have v0 := hV 0
  have v1 := hV 1
  have v2 := hV 2
  have v3 := hV 3
  have v4 := hV 4
  have v5 := hV 5
  have v6 := hV 6
  have v7 := hV 7
  have v8 := hV 8
  have v9 := hV 9
  have v10 := hV 10
  have v11 := hV 11
  have v12 := hV 12
  have v13 := hV 13
  have v14 := hV 14
  have v15 := hV 15
  have v16 := hV 16
  have v17 := hV 17
  have v18 := hV 18
  have v19 := hV 19
  have v20 := hV 20
  have v21 := hV 21
  have v22 := hV 22
  have v23 := hV 23
  have v24 := hV 24
  have v25 := hV 25
  have v30 := hV 30
  have v31 := hV 31
  have v32 := hV 32
  have v33 := hV 33
  have v34 := hV 34
  have v35 := hV 35
  have v36 := hV 36
  have v37 := hV 37
  have v38 := hV 38
  have v39 := hV 39
  simp only [Nat.reduceAdd, behE, rng] at v0 v1 v2 v3 v4 v5 v6 v7 v8 v9 v10 v11 v12 v13 v14 v15 v16 v17 v18 v19 v20 v21 v22 v23 v24 v25 v30 v31 v32 v33 v34 v35 v36 v37 v38 v39
  simp only [v0, v1, v2, v3, v4, v5, v6, v7, v8, v9, v10, v11, v12, v13, v14, v15, v16, v17, v18, v19, v20, v21, v22, v23, v24, v25, v30, v31, v32, v33, v34, v35, v36, v37, v38, v39]
  clear hV v0 v1 v2 v3 v4 v5 v6 v7 v8 v9 v10 v11 v12 v13 v14 v15 v16 v17 v18 v19 v20 v21 v22 v23 v24 v25 v30 v31 v32 v33 v34 v35 v36 v37 v38 v39
  have hd1 := hR (ρ.i 1)
  have hq1 := hR (ρ.i 2)
  have rd := rg (ρ.i 1)
  have rq := rg (ρ.i 2)
  clear hR rg
  generalize rS ρ (ρ.i 1) = dS at *
  generalize rL ρ (ρ.i 1) = dL at *
  generalize rG ρ (ρ.i 1) = dG at *
  generalize rS ρ (ρ.i 2) = qS at *
  generalize rL ρ (ρ.i 2) = qL at *
  generalize rG ρ (ρ.i 2) = qG at *
  generalize ρ.i 1 = dst at *
  generalize ρ.i 2 = src at *
  generalize ρ.i 3 = off at *
  generalize ρ.i 4 = imm at *
  generalize ρ.i 5 = ctx at *
  generalize ρ.b 7 = s0 at *
  clear hI
  simp [MayP, useD, useS, useM] at hM
  simp [beh, needs, useS, useM, made, fit, codeB, codeK, codeP]
  try (repeat' (first | apply And.intro | intro _))
  all_goals (try omega)
  all_goals (try omega)
  all_goals (try simp_all [codeP])
  all_goals (try omega)
  all_goals (try (first | exact quo_div (by omega) (by omega) (by omega) | exact mnw (by omega) (by omega) (by omega) (by omega) | exact mxw (by omega) (by omega) (by omega) (by omega) | exact wrap2 (by omega) (by omega) | exact fits_u32 (by omega) (by omega)))
  done
def b14_24T : NT :=
 (.ite (.ite (.lt (.var 5) (.lit 0)) (.lit 1) (.lt (.lit 256) (.var 5)))
 (.goal (.ite (.eq (.lit 2) (.var 100)) (.ite (.eq (.lit 0) (.var 101)) (.eq (.lit 0) (.var 130)) (.lit 0)) (.lit 0)))
 (.ite (.not (.bvar 7))
 (.goal (.ite (.eq (.lit 161) (.var 100)) (.ite (.eq (.lit 0) (.var 101)) (.eq (.lit 0) (.var 130)) (.lit 0)) (.lit 0)))
 (.goal (.ite (.eq (.lit 0) (.var 100)) (.ite (.eq (.lit 0) (.var 101)) (.eq (.lit 0) (.var 130)) (.lit 0)) (.lit 0)))))
set_option maxHeartbeats 8000000 in
theorem b14_24_ev : finT (gamR behK) (chkL leaf14 (evFn Try.prog C14 20 30 14 (behA 24) [] (pre14 24))) = b14_24T := by kernel_rfl
set_option maxHeartbeats 16000000 in
theorem b14_24_holds (ρ : Env) (H : BehH ρ 24) (hctx : 0 ≤ ρ.i 5 ∧ ρ.i 5 ≤ 256) : b14_24T.Holds ρ := by
  obtain ⟨hI, h3, h4, hM, hR, rg, hV⟩ := H
  simp only [b14_24T, NT.Holds, N.denP, N.den, E.denB, E.den, E.denL, appI, hI, den_right, den_may', den_power, andIte, orIte, eS, eL, eG]
  have v0 := hV 0
  have v1 := hV 1
  have v2 := hV 2
  have v3 := hV 3
  have v4 := hV 4
  have v5 := hV 5
  have v6 := hV 6
  have v7 := hV 7
  have v8 := hV 8
  have v9 := hV 9
  have v10 := hV 10
  have v11 := hV 11
  have v12 := hV 12
  have v13 := hV 13
  have v14 := hV 14
  have v15 := hV 15
  have v16 := hV 16
  have v17 := hV 17
  have v18 := hV 18
  have v19 := hV 19
  have v20 := hV 20
  have v21 := hV 21
  have v22 := hV 22
  have v23 := hV 23
  have v24 := hV 24
  have v25 := hV 25
  have v30 := hV 30
  have v31 := hV 31
  have v32 := hV 32
  have v33 := hV 33
  have v34 := hV 34
  have v35 := hV 35
  have v36 := hV 36
  have v37 := hV 37
  have v38 := hV 38
  have v39 := hV 39
  simp only [Nat.reduceAdd, behE, rng] at v0 v1 v2 v3 v4 v5 v6 v7 v8 v9 v10 v11 v12 v13 v14 v15 v16 v17 v18 v19 v20 v21 v22 v23 v24 v25 v30 v31 v32 v33 v34 v35 v36 v37 v38 v39
  simp only [v0, v1, v2, v3, v4, v5, v6, v7, v8, v9, v10, v11, v12, v13, v14, v15, v16, v17, v18, v19, v20, v21, v22, v23, v24, v25, v30, v31, v32, v33, v34, v35, v36, v37, v38, v39]
  clear hV v0 v1 v2 v3 v4 v5 v6 v7 v8 v9 v10 v11 v12 v13 v14 v15 v16 v17 v18 v19 v20 v21 v22 v23 v24 v25 v30 v31 v32 v33 v34 v35 v36 v37 v38 v39
  have hd1 := hR (ρ.i 1)
  have hq1 := hR (ρ.i 2)
  have rd := rg (ρ.i 1)
  have rq := rg (ρ.i 2)
  clear hR rg
  generalize rS ρ (ρ.i 1) = dS at *
  generalize rL ρ (ρ.i 1) = dL at *
  generalize rG ρ (ρ.i 1) = dG at *
  generalize rS ρ (ρ.i 2) = qS at *
  generalize rL ρ (ρ.i 2) = qL at *
  generalize rG ρ (ρ.i 2) = qG at *
  generalize ρ.i 1 = dst at *
  generalize ρ.i 2 = src at *
  generalize ρ.i 3 = off at *
  generalize ρ.i 4 = imm at *
  generalize ρ.i 5 = ctx at *
  generalize ρ.b 7 = s0 at *
  clear hI
  simp [MayP, useD, useS, useM] at hM
  simp [beh, needs, useS, useM, made, fit, codeB, codeK, codeP]
  try (repeat' (first | apply And.intro | intro _))
  all_goals (try omega)
  all_goals (try omega)
  all_goals (try simp_all [codeP])
  all_goals (try omega)
  all_goals (try (first | exact quo_div (by omega) (by omega) (by omega) | exact mnw (by omega) (by omega) (by omega) (by omega) | exact mxw (by omega) (by omega) (by omega) (by omega) | exact wrap2 (by omega) (by omega) | exact fits_u32 (by omega) (by omega)))
  done
end Go.Proofs.Ytpamdmikdnoplaa