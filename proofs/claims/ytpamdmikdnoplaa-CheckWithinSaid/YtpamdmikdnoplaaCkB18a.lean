/- What an instruction makes, Op by Op: the plain goals. -/
import Derived.Test.YtpamdmikdnoplaaCkBehL
namespace Go.Proofs.Ytpamdmikdnoplaa
open Go.Sx Go.RowKit Go.Ck
set_option linter.unusedVariables false
set_option linter.unusedSimpArgs false
set_option maxRecDepth 100000

def b18_1T : NT :=
 (.both (.goal (.le (.lit 0) (.var 1)))
 (.both (.goal (.lt (.var 1) (.lit 10)))
 (.both (.goal (.le (.lit 0) (.var 2)))
 (.both (.goal (.lt (.var 2) (.lit 10)))
 (.both (.goal (.le (.lit 0) (.var 1)))
 (.both (.goal (.lt (.var 1) (.lit 10)))
 (.goal (.ite (.eq (.lit 0) (.var 100)) (.ite (.eq (.lit 2) (.var 101)) (.ite (.le (.lit 0) (.var 1)) (.ite (.eq (.var 1) (.var 102)) (.ite (.eq (.lit 1) (.var 103)) (.ite (.eq (.var 4) (.var 104)) (.ite (.eq (.var 4) (.var 105)) (.eq (.lit 0) (.var 130)) (.lit 0)) (.lit 0)) (.lit 0)) (.lit 0)) (.lit 0)) (.lit 0)) (.lit 0)))))))))
set_option maxHeartbeats 8000000 in
theorem b18_1_ev : finT (gamR behK) (chkL leaf18 (evFn Try.prog C18 20 30 18 (behA 1) [] (pre18 1))) = b18_1T := by kernel_rfl
set_option maxHeartbeats 16000000 in
theorem b18_1_holds (ρ : Env) (H : BehH ρ 1) (hctx : True) : b18_1T.Holds ρ := by
  obtain ⟨hI, h3, h4, hM, hR, rg, hV⟩ := H
  simp only [b18_1T, NT.Holds, N.denP, N.den, E.denB, E.den, E.denL, appI, hI, den_right, den_may', den_power, andIte, orIte, eS, eL, eG]
  have v0 := hV 0
  have v1 := hV 1
  have v2 := hV 2
  have v3 := hV 3
  have v4 := hV 4
  have v5 := hV 5
  have v6 := hV 6
  have v7 := hV 7
  have v8 := hV 8
  have v9 := hV 9
  have v10 := hV 10
  have v11 := hV 11
  have v12 := hV 12
  have v13 := hV 13
  have v14 := hV 14
  have v15 := hV 15
  have v16 := hV 16
  have v17 := hV 17
  have v18 := hV 18
  have v19 := hV 19
  have v20 := hV 20
  have v21 := hV 21
  have v22 := hV 22
  have v23 := hV 23
  have v24 := hV 24
  have v25 := hV 25
  have v30 := hV 30
  have v31 := hV 31
  have v32 := hV 32
  have v33 := hV 33
  have v34 := hV 34
  have v35 := hV 35
  have v36 := hV 36
  have v37 := hV 37
  have v38 := hV 38
  have v39 := hV 39
  simp only [Nat.reduceAdd, behE, rng] at v0 v1 v2 v3 v4 v5 v6 v7 v8 v9 v10 v11 v12 v13 v14 v15 v16 v17 v18 v19 v20 v21 v22 v23 v24 v25 v30 v31 v32 v33 v34 v35 v36 v37 v38 v39
  simp only [v0, v1, v2, v3, v4, v5, v6, v7, v8, v9, v10, v11, v12, v13, v14, v15, v16, v17, v18, v19, v20, v21, v22, v23, v24, v25, v30, v31, v32, v33, v34, v35, v36, v37, v38, v39]
  clear hV v0 v1 v2 v3 v4 v5 v6 v7 v8 v9 v10 v11 v12 v13 v14 v15 v16 v17 v18 v19 v20 v21 v22 v23 v24 v25 v30 v31 v32 v33 v34 v35 v36 v37 v38 v39
  have hd1 := hR (ρ.i 1)
  have hq1 := hR (ρ.i 2)
  have rd := rg (ρ.i 1)
  have rq := rg (ρ.i 2)
  clear hR rg
  generalize rS ρ (ρ.i 1) = dS at *
  generalize rL ρ (ρ.i 1) = dL at *
  generalize rG ρ (ρ.i 1) = dG at *
  generalize rS ρ (ρ.i 2) = qS at *
  generalize rL ρ (ρ.i 2) = qL at *
  generalize rG ρ (ρ.i 2) = qG at *
  generalize ρ.i 1 = dst at *
  generalize ρ.i 2 = src at *
  generalize ρ.i 3 = off at *
  generalize ρ.i 4 = imm at *
  generalize ρ.i 5 = ctx at *
  generalize ρ.b 7 = s0 at *
  clear hI
  simp [MayP, useD, useS, useM] at hM
  simp [beh, needs, useS, useM, made, fit, codeB, codeK, codeP]
  try (repeat' (first | apply And.intro | intro _))
  all_goals (try omega)
  all_goals (try omega)
  all_goals (try simp_all [codeP])
  all_goals (try omega)
  all_goals (try (first | exact quo_divi (by omega) (by omega) (by omega) | exact mnwi (by omega) (by omega) (by omega) (by omega) | exact mxw (by omega) (by omega) (by omega) (by omega) | exact wrap2i (by omega) (by omega) | exact fits_u32 (by omega) (by omega)))
  done
def b18_2T : NT :=
 (.both (.goal (.le (.lit 0) (.var 2)))
 (.both (.goal (.lt (.var 2) (.lit 10)))
 (.ite (.not (.app (.app 70 (.cons (.var 2) (.cons (.bvar 7) (.cons (.bvar 10) (.cons (.bvar 13) (.cons (.bvar 16) (.cons (.bvar 19) (.cons (.bvar 22) (.cons (.bvar 25) (.cons (.bvar 28) (.cons (.bvar 31) (.cons (.bvar 34) .nil))))))))))))))
 (.goal (.ite (.eq (.lit 161) (.var 100)) (.ite (.eq (.lit 0) (.var 101)) (.eq (.lit 0) (.var 130)) (.lit 0)) (.lit 0)))
 (.both (.goal (.le (.lit 0) (.var 1)))
 (.both (.goal (.lt (.var 1) (.lit 10)))
 (.both (.goal (.le (.lit 0) (.var 2)))
 (.both (.goal (.lt (.var 2) (.lit 10)))
 (.both (.goal (.le (.lit 0) (.var 1)))
 (.both (.goal (.lt (.var 1) (.lit 10)))
 (.goal (.ite (.eq (.lit 0) (.var 100)) (.ite (.eq (.lit 2) (.var 101)) (.ite (.le (.lit 0) (.var 1)) (.ite (.eq (.var 1) (.var 102)) (.ite (.eq (.lit 1) (.var 103)) (.ite (.eq (.app (.app 70 (.cons (.var 2) (.cons (.var 8) (.cons (.var 11) (.cons (.var 14) (.cons (.var 17) (.cons (.var 20) (.cons (.var 23) (.cons (.var 26) (.cons (.var 29) (.cons (.var 32) (.cons (.var 35) .nil))))))))))))) (.var 104)) (.ite (.eq (.app (.app 70 (.cons (.var 2) (.cons (.var 9) (.cons (.var 12) (.cons (.var 15) (.cons (.var 18) (.cons (.var 21) (.cons (.var 24) (.cons (.var 27) (.cons (.var 30) (.cons (.var 33) (.cons (.var 36) .nil))))))))))))) (.var 105)) (.eq (.lit 0) (.var 130)) (.lit 0)) (.lit 0)) (.lit 0)) (.lit 0)) (.lit 0)) (.lit 0)) (.lit 0))))))))))))
set_option maxHeartbeats 8000000 in
theorem b18_2_ev : finT (gamR behK) (chkL leaf18 (evFn Try.prog C18 20 30 18 (behA 2) [] (pre18 2))) = b18_2T := by kernel_rfl
set_option maxHeartbeats 16000000 in
theorem b18_2_holds (ρ : Env) (H : BehH ρ 2) (hctx : True) : b18_2T.Holds ρ := by
  obtain ⟨hI, h3, h4, hM, hR, rg, hV⟩ := H
  simp only [b18_2T, NT.Holds, N.denP, N.den, E.denB, E.den, E.denL, appI, hI, den_right, den_may', den_power, andIte, orIte, eS, eL, eG]
  have v0 := hV 0
  have v1 := hV 1
  have v2 := hV 2
  have v3 := hV 3
  have v4 := hV 4
  have v5 := hV 5
  have v6 := hV 6
  have v7 := hV 7
  have v8 := hV 8
  have v9 := hV 9
  have v10 := hV 10
  have v11 := hV 11
  have v12 := hV 12
  have v13 := hV 13
  have v14 := hV 14
  have v15 := hV 15
  have v16 := hV 16
  have v17 := hV 17
  have v18 := hV 18
  have v19 := hV 19
  have v20 := hV 20
  have v21 := hV 21
  have v22 := hV 22
  have v23 := hV 23
  have v24 := hV 24
  have v25 := hV 25
  have v30 := hV 30
  have v31 := hV 31
  have v32 := hV 32
  have v33 := hV 33
  have v34 := hV 34
  have v35 := hV 35
  have v36 := hV 36
  have v37 := hV 37
  have v38 := hV 38
  have v39 := hV 39
  simp only [Nat.reduceAdd, behE, rng] at v0 v1 v2 v3 v4 v5 v6 v7 v8 v9 v10 v11 v12 v13 v14 v15 v16 v17 v18 v19 v20 v21 v22 v23 v24 v25 v30 v31 v32 v33 v34 v35 v36 v37 v38 v39
  simp only [v0, v1, v2, v3, v4, v5, v6, v7, v8, v9, v10, v11, v12, v13, v14, v15, v16, v17, v18, v19, v20, v21, v22, v23, v24, v25, v30, v31, v32, v33, v34, v35, v36, v37, v38, v39]
  clear hV v0 v1 v2 v3 v4 v5 v6 v7 v8 v9 v10 v11 v12 v13 v14 v15 v16 v17 v18 v19 v20 v21 v22 v23 v24 v25 v30 v31 v32 v33 v34 v35 v36 v37 v38 v39
  have hd1 := hR (ρ.i 1)
  have hq1 := hR (ρ.i 2)
  have rd := rg (ρ.i 1)
  have rq := rg (ρ.i 2)
  clear hR rg
  generalize rS ρ (ρ.i 1) = dS at *
  generalize rL ρ (ρ.i 1) = dL at *
  generalize rG ρ (ρ.i 1) = dG at *
  generalize rS ρ (ρ.i 2) = qS at *
  generalize rL ρ (ρ.i 2) = qL at *
  generalize rG ρ (ρ.i 2) = qG at *
  generalize ρ.i 1 = dst at *
  generalize ρ.i 2 = src at *
  generalize ρ.i 3 = off at *
  generalize ρ.i 4 = imm at *
  generalize ρ.i 5 = ctx at *
  generalize ρ.b 7 = s0 at *
  clear hI
  simp [MayP, useD, useS, useM] at hM
  simp [beh, needs, useS, useM, made, fit, codeB, codeK, codeP]
  try (repeat' (first | apply And.intro | intro _))
  all_goals (try omega)
  all_goals (try omega)
  all_goals (try simp_all [codeP])
  all_goals (try omega)
  all_goals (try (first | exact quo_divi (by omega) (by omega) (by omega) | exact mnwi (by omega) (by omega) (by omega) (by omega) | exact mxw (by omega) (by omega) (by omega) (by omega) | exact wrap2i (by omega) (by omega) | exact fits_u32 (by omega) (by omega)))
  done
def b18_3T : NT :=
 (.both (.goal (.le (.lit 0) (.var 1)))
 (.both (.goal (.lt (.var 1) (.lit 10)))
 (.ite (.not (.app (.app 70 (.cons (.var 1) (.cons (.bvar 7) (.cons (.bvar 10) (.cons (.bvar 13) (.cons (.bvar 16) (.cons (.bvar 19) (.cons (.bvar 22) (.cons (.bvar 25) (.cons (.bvar 28) (.cons (.bvar 31) (.cons (.bvar 34) .nil))))))))))))))
 (.goal (.ite (.eq (.lit 161) (.var 100)) (.ite (.eq (.lit 0) (.var 101)) (.eq (.lit 0) (.var 130)) (.lit 0)) (.lit 0)))
 (.both (.goal (.le (.lit 0) (.var 1)))
 (.both (.goal (.lt (.var 1) (.lit 10)))
 (.both (.goal (.le (.lit 0) (.var 2)))
 (.both (.goal (.lt (.var 2) (.lit 10)))
 (.ite (.lt (.lit 4294967295) (.add (.app (.app 70 (.cons (.var 1) (.cons (.var 9) (.cons (.var 12) (.cons (.var 15) (.cons (.var 18) (.cons (.var 21) (.cons (.var 24) (.cons (.var 27) (.cons (.var 30) (.cons (.var 33) (.cons (.var 36) .nil))))))))))))) (.var 4)))
 (.both (.goal (.le (.lit 0) (.var 1)))
 (.both (.goal (.lt (.var 1) (.lit 10)))
 (.goal (.ite (.eq (.lit 0) (.var 100)) (.ite (.eq (.lit 2) (.var 101)) (.ite (.le (.lit 0) (.var 1)) (.ite (.eq (.var 1) (.var 102)) (.ite (.eq (.lit 1) (.var 103)) (.ite (.eq (.lit 0) (.var 104)) (.ite (.eq (.lit 4294967295) (.var 105)) (.eq (.lit 0) (.var 130)) (.lit 0)) (.lit 0)) (.lit 0)) (.lit 0)) (.lit 0)) (.lit 0)) (.lit 0)))))
 (.both (.goal (.le (.lit 0) (.var 1)))
 (.both (.goal (.lt (.var 1) (.lit 10)))
 (.goal (.ite (.eq (.lit 0) (.var 100)) (.ite (.eq (.lit 2) (.var 101)) (.ite (.le (.lit 0) (.var 1)) (.ite (.eq (.var 1) (.var 102)) (.ite (.eq (.lit 1) (.var 103)) (.ite (.eq (.wrap .u32 (.add (.app (.app 70 (.cons (.var 1) (.cons (.var 8) (.cons (.var 11) (.cons (.var 14) (.cons (.var 17) (.cons (.var 20) (.cons (.var 23) (.cons (.var 26) (.cons (.var 29) (.cons (.var 32) (.cons (.var 35) .nil))))))))))))) (.var 4))) (.var 104)) (.ite (.eq (.wrap .u32 (.add (.app (.app 70 (.cons (.var 1) (.cons (.var 9) (.cons (.var 12) (.cons (.var 15) (.cons (.var 18) (.cons (.var 21) (.cons (.var 24) (.cons (.var 27) (.cons (.var 30) (.cons (.var 33) (.cons (.var 36) .nil))))))))))))) (.var 4))) (.var 105)) (.eq (.lit 0) (.var 130)) (.lit 0)) (.lit 0)) (.lit 0)) (.lit 0)) (.lit 0)) (.lit 0)) (.lit 0)))))))))))))
set_option maxHeartbeats 8000000 in
theorem b18_3_ev : finT (gamR behK) (chkL leaf18 (evFn Try.prog C18 20 30 18 (behA 3) [] (pre18 3))) = b18_3T := by kernel_rfl
set_option maxHeartbeats 16000000 in
theorem b18_3_holds (ρ : Env) (H : BehH ρ 3) (hctx : True) : b18_3T.Holds ρ := by
  obtain ⟨hI, h3, h4, hM, hR, rg, hV⟩ := H
  simp only [b18_3T, NT.Holds, N.denP, N.den, E.denB, E.den, E.denL, appI, hI, den_right, den_may', den_power, andIte, orIte, eS, eL, eG]
  have v0 := hV 0
  have v1 := hV 1
  have v2 := hV 2
  have v3 := hV 3
  have v4 := hV 4
  have v5 := hV 5
  have v6 := hV 6
  have v7 := hV 7
  have v8 := hV 8
  have v9 := hV 9
  have v10 := hV 10
  have v11 := hV 11
  have v12 := hV 12
  have v13 := hV 13
  have v14 := hV 14
  have v15 := hV 15
  have v16 := hV 16
  have v17 := hV 17
  have v18 := hV 18
  have v19 := hV 19
  have v20 := hV 20
  have v21 := hV 21
  have v22 := hV 22
  have v23 := hV 23
  have v24 := hV 24
  have v25 := hV 25
  have v30 := hV 30
  have v31 := hV 31
  have v32 := hV 32
  have v33 := hV 33
  have v34 := hV 34
  have v35 := hV 35
  have v36 := hV 36
  have v37 := hV 37
  have v38 := hV 38
  have v39 := hV 39
  simp only [Nat.reduceAdd, behE, rng] at v0 v1 v2 v3 v4 v5 v6 v7 v8 v9 v10 v11 v12 v13 v14 v15 v16 v17 v18 v19 v20 v21 v22 v23 v24 v25 v30 v31 v32 v33 v34 v35 v36 v37 v38 v39
  simp only [v0, v1, v2, v3, v4, v5, v6, v7, v8, v9, v10, v11, v12, v13, v14, v15, v16, v17, v18, v19, v20, v21, v22, v23, v24, v25, v30, v31, v32, v33, v34, v35, v36, v37, v38, v39]
  clear hV v0 v1 v2 v3 v4 v5 v6 v7 v8 v9 v10 v11 v12 v13 v14 v15 v16 v17 v18 v19 v20 v21 v22 v23 v24 v25 v30 v31 v32 v33 v34 v35 v36 v37 v38 v39
  have hd1 := hR (ρ.i 1)
  have hq1 := hR (ρ.i 2)
  have rd := rg (ρ.i 1)
  have rq := rg (ρ.i 2)
  clear hR rg
  generalize rS ρ (ρ.i 1) = dS at *
  generalize rL ρ (ρ.i 1) = dL at *
  generalize rG ρ (ρ.i 1) = dG at *
  generalize rS ρ (ρ.i 2) = qS at *
  generalize rL ρ (ρ.i 2) = qL at *
  generalize rG ρ (ρ.i 2) = qG at *
  generalize ρ.i 1 = dst at *
  generalize ρ.i 2 = src at *
  generalize ρ.i 3 = off at *
  generalize ρ.i 4 = imm at *
  generalize ρ.i 5 = ctx at *
  generalize ρ.b 7 = s0 at *
  clear hI
  simp [MayP, useD, useS, useM] at hM
  have g0 := @fits_u32 (dL + imm)
  have g1 := @fits_u32 (dG + imm)
  simp [beh, needs, useS, useM, made, fit, codeB, codeK, codeP]
  try (repeat' (first | apply And.intro | intro _))
  all_goals (try omega)
  all_goals (try (first | simp [if_pos (show 4294967295 < dG + imm by first | omega | (intro _; omega)), codeP] | simp [if_neg (show ¬ (4294967295 < dG + imm) by first | omega | (intro h; have h' := h (by omega); omega)), codeP]))
  all_goals (try omega)
  all_goals (try (clear g0 g1))
  all_goals (try simp_all [codeP])
  all_goals (try omega)
  all_goals (try (first | exact quo_divi (by omega) (by omega) (by omega) | exact mnwi (by omega) (by omega) (by omega) (by omega) | exact mxw (by omega) (by omega) (by omega) (by omega) | exact wrap2i (by omega) (by omega) | exact fits_u32 (by omega) (by omega)))
  done
def b18_4T : NT :=
 (.both (.goal (.le (.lit 0) (.var 1)))
 (.both (.goal (.lt (.var 1) (.lit 10)))
 (.both (.goal (.ite (.app (.app 70 (.cons (.var 1) (.cons (.bvar 7) (.cons (.bvar 10) (.cons (.bvar 13) (.cons (.bvar 16) (.cons (.bvar 19) (.cons (.bvar 22) (.cons (.bvar 25) (.cons (.bvar 28) (.cons (.bvar 31) (.cons (.bvar 34) .nil))))))))))))) (.le (.lit 0) (.var 2)) (.lit 1)))
 (.both (.goal (.ite (.app (.app 70 (.cons (.var 1) (.cons (.bvar 7) (.cons (.bvar 10) (.cons (.bvar 13) (.cons (.bvar 16) (.cons (.bvar 19) (.cons (.bvar 22) (.cons (.bvar 25) (.cons (.bvar 28) (.cons (.bvar 31) (.cons (.bvar 34) .nil))))))))))))) (.lt (.var 2) (.lit 10)) (.lit 1)))
 (.ite (.ite (.not (.app (.app 70 (.cons (.var 1) (.cons (.bvar 7) (.cons (.bvar 10) (.cons (.bvar 13) (.cons (.bvar 16) (.cons (.bvar 19) (.cons (.bvar 22) (.cons (.bvar 25) (.cons (.bvar 28) (.cons (.bvar 31) (.cons (.bvar 34) .nil)))))))))))))) (.lit 1) (.not (.app (.app 70 (.cons (.var 2) (.cons (.bvar 7) (.cons (.bvar 10) (.cons (.bvar 13) (.cons (.bvar 16) (.cons (.bvar 19) (.cons (.bvar 22) (.cons (.bvar 25) (.cons (.bvar 28) (.cons (.bvar 31) (.cons (.bvar 34) .nil)))))))))))))))
 (.goal (.ite (.eq (.lit 161) (.var 100)) (.ite (.eq (.lit 0) (.var 101)) (.eq (.lit 0) (.var 130)) (.lit 0)) (.lit 0)))
 (.both (.goal (.le (.lit 0) (.var 1)))
 (.both (.goal (.lt (.var 1) (.lit 10)))
 (.both (.goal (.le (.lit 0) (.var 2)))
 (.both (.goal (.lt (.var 2) (.lit 10)))
 (.ite (.lt (.lit 4294967295) (.add (.app (.app 70 (.cons (.var 1) (.cons (.var 9) (.cons (.var 12) (.cons (.var 15) (.cons (.var 18) (.cons (.var 21) (.cons (.var 24) (.cons (.var 27) (.cons (.var 30) (.cons (.var 33) (.cons (.var 36) .nil))))))))))))) (.app (.app 70 (.cons (.var 2) (.cons (.var 9) (.cons (.var 12) (.cons (.var 15) (.cons (.var 18) (.cons (.var 21) (.cons (.var 24) (.cons (.var 27) (.cons (.var 30) (.cons (.var 33) (.cons (.var 36) .nil)))))))))))))))
 (.both (.goal (.le (.lit 0) (.var 1)))
 (.both (.goal (.lt (.var 1) (.lit 10)))
 (.goal (.ite (.eq (.lit 0) (.var 100)) (.ite (.eq (.lit 2) (.var 101)) (.ite (.le (.lit 0) (.var 1)) (.ite (.eq (.var 1) (.var 102)) (.ite (.eq (.lit 1) (.var 103)) (.ite (.eq (.lit 0) (.var 104)) (.ite (.eq (.lit 4294967295) (.var 105)) (.eq (.lit 0) (.var 130)) (.lit 0)) (.lit 0)) (.lit 0)) (.lit 0)) (.lit 0)) (.lit 0)) (.lit 0)))))
 (.both (.goal (.le (.lit 0) (.var 1)))
 (.both (.goal (.lt (.var 1) (.lit 10)))
 (.goal (.ite (.eq (.lit 0) (.var 100)) (.ite (.eq (.lit 2) (.var 101)) (.ite (.le (.lit 0) (.var 1)) (.ite (.eq (.var 1) (.var 102)) (.ite (.eq (.lit 1) (.var 103)) (.ite (.eq (.wrap .u32 (.add (.app (.app 70 (.cons (.var 1) (.cons (.var 8) (.cons (.var 11) (.cons (.var 14) (.cons (.var 17) (.cons (.var 20) (.cons (.var 23) (.cons (.var 26) (.cons (.var 29) (.cons (.var 32) (.cons (.var 35) .nil))))))))))))) (.app (.app 70 (.cons (.var 2) (.cons (.var 8) (.cons (.var 11) (.cons (.var 14) (.cons (.var 17) (.cons (.var 20) (.cons (.var 23) (.cons (.var 26) (.cons (.var 29) (.cons (.var 32) (.cons (.var 35) .nil))))))))))))))) (.var 104)) (.ite (.eq (.wrap .u32 (.add (.app (.app 70 (.cons (.var 1) (.cons (.var 9) (.cons (.var 12) (.cons (.var 15) (.cons (.var 18) (.cons (.var 21) (.cons (.var 24) (.cons (.var 27) (.cons (.var 30) (.cons (.var 33) (.cons (.var 36) .nil))))))))))))) (.app (.app 70 (.cons (.var 2) (.cons (.var 9) (.cons (.var 12) (.cons (.var 15) (.cons (.var 18) (.cons (.var 21) (.cons (.var 24) (.cons (.var 27) (.cons (.var 30) (.cons (.var 33) (.cons (.var 36) .nil))))))))))))))) (.var 105)) (.eq (.lit 0) (.var 130)) (.lit 0)) (.lit 0)) (.lit 0)) (.lit 0)) (.lit 0)) (.lit 0)) (.lit 0)))))))))))))))
set_option maxHeartbeats 8000000 in
theorem b18_4_ev : finT (gamR behK) (chkL leaf18 (evFn Try.prog C18 20 30 18 (behA 4) [] (pre18 4))) = b18_4T := by kernel_rfl
set_option maxHeartbeats 16000000 in
theorem b18_4_holds (ρ : Env) (H : BehH ρ 4) (hctx : True) : b18_4T.Holds ρ := by
  obtain ⟨hI, h3, h4, hM, hR, rg, hV⟩ := H
  simp only [b18_4T, NT.Holds, N.denP, N.den, E.denB, E.den, E.denL, appI, hI, den_right, den_may', den_power, andIte, orIte, eS, eL, eG]
  have v0 := hV 0
  have v1 := hV 1
  have v2 := hV 2
  have v3 := hV 3
  have v4 := hV 4
  have v5 := hV 5
  have v6 := hV 6
  have v7 := hV 7
  have v8 := hV 8
  have v9 := hV 9
  have v10 := hV 10
  have v11 := hV 11
  have v12 := hV 12
  have v13 := hV 13
  have v14 := hV 14
  have v15 := hV 15
  have v16 := hV 16
  have v17 := hV 17
  have v18 := hV 18
  have v19 := hV 19
  have v20 := hV 20
  have v21 := hV 21
  have v22 := hV 22
  have v23 := hV 23
  have v24 := hV 24
  have v25 := hV 25
  have v30 := hV 30
  have v31 := hV 31
  have v32 := hV 32
  have v33 := hV 33
  have v34 := hV 34
  have v35 := hV 35
  have v36 := hV 36
  have v37 := hV 37
  have v38 := hV 38
  have v39 := hV 39
  simp only [Nat.reduceAdd, behE, rng] at v0 v1 v2 v3 v4 v5 v6 v7 v8 v9 v10 v11 v12 v13 v14 v15 v16 v17 v18 v19 v20 v21 v22 v23 v24 v25 v30 v31 v32 v33 v34 v35 v36 v37 v38 v39
  simp only [v0, v1, v2, v3, v4, v5, v6, v7, v8, v9, v10, v11, v12, v13, v14, v15, v16, v17, v18, v19, v20, v21, v22, v23, v24, v25, v30, v31, v32, v33, v34, v35, v36, v37, v38, v39]
  clear hV v0 v1 v2 v3 v4 v5 v6 v7 v8 v9 v10 v11 v12 v13 v14 v15 v16 v17 v18 v19 v20 v21 v22 v23 v24 v25 v30 v31 v32 v33 v34 v35 v36 v37 v38 v39
  have hd1 := hR (ρ.i 1)
  have hq1 := hR (ρ.i 2)
  have rd := rg (ρ.i 1)
  have rq := rg (ρ.i 2)
  clear hR rg
  generalize rS ρ (ρ.i 1) = dS at *
  generalize rL ρ (ρ.i 1) = dL at *
  generalize rG ρ (ρ.i 1) = dG at *
  generalize rS ρ (ρ.i 2) = qS at *
  generalize rL ρ (ρ.i 2) = qL at *
  generalize rG ρ (ρ.i 2) = qG at *
  generalize ρ.i 1 = dst at *
  generalize ρ.i 2 = src at *
  generalize ρ.i 3 = off at *
  generalize ρ.i 4 = imm at *
  generalize ρ.i 5 = ctx at *
  generalize ρ.b 7 = s0 at *
  clear hI
  simp [MayP, useD, useS, useM] at hM
  have g0 := @fits_u32 (dL + qL)
  have g1 := @fits_u32 (dG + qG)
  simp [beh, needs, useS, useM, made, fit, codeB, codeK, codeP]
  try (repeat' (first | apply And.intro | intro _))
  all_goals (try omega)
  all_goals (try (first | simp [if_pos (show 4294967295 < dG + qG by first | omega | (intro _; omega)), codeP] | simp [if_neg (show ¬ (4294967295 < dG + qG) by first | omega | (intro h; have h' := h (by omega); omega)), codeP]))
  all_goals (try omega)
  all_goals (try (clear g0 g1))
  all_goals (try simp_all [codeP])
  all_goals (try omega)
  all_goals (try (first | exact quo_divi (by omega) (by omega) (by omega) | exact mnwi (by omega) (by omega) (by omega) (by omega) | exact mxw (by omega) (by omega) (by omega) (by omega) | exact wrap2i (by omega) (by omega) | exact fits_u32 (by omega) (by omega)))
  done
def b18_5T : NT :=
 (.both (.goal (.le (.lit 0) (.var 1)))
 (.both (.goal (.lt (.var 1) (.lit 10)))
 (.both (.goal (.ite (.app (.app 70 (.cons (.var 1) (.cons (.bvar 7) (.cons (.bvar 10) (.cons (.bvar 13) (.cons (.bvar 16) (.cons (.bvar 19) (.cons (.bvar 22) (.cons (.bvar 25) (.cons (.bvar 28) (.cons (.bvar 31) (.cons (.bvar 34) .nil))))))))))))) (.le (.lit 0) (.var 2)) (.lit 1)))
 (.both (.goal (.ite (.app (.app 70 (.cons (.var 1) (.cons (.bvar 7) (.cons (.bvar 10) (.cons (.bvar 13) (.cons (.bvar 16) (.cons (.bvar 19) (.cons (.bvar 22) (.cons (.bvar 25) (.cons (.bvar 28) (.cons (.bvar 31) (.cons (.bvar 34) .nil))))))))))))) (.lt (.var 2) (.lit 10)) (.lit 1)))
 (.ite (.ite (.not (.app (.app 70 (.cons (.var 1) (.cons (.bvar 7) (.cons (.bvar 10) (.cons (.bvar 13) (.cons (.bvar 16) (.cons (.bvar 19) (.cons (.bvar 22) (.cons (.bvar 25) (.cons (.bvar 28) (.cons (.bvar 31) (.cons (.bvar 34) .nil)))))))))))))) (.lit 1) (.not (.app (.app 70 (.cons (.var 2) (.cons (.bvar 7) (.cons (.bvar 10) (.cons (.bvar 13) (.cons (.bvar 16) (.cons (.bvar 19) (.cons (.bvar 22) (.cons (.bvar 25) (.cons (.bvar 28) (.cons (.bvar 31) (.cons (.bvar 34) .nil)))))))))))))))
 (.goal (.ite (.eq (.lit 161) (.var 100)) (.ite (.eq (.lit 0) (.var 101)) (.eq (.lit 0) (.var 130)) (.lit 0)) (.lit 0)))
 (.both (.goal (.le (.lit 0) (.var 1)))
 (.both (.goal (.lt (.var 1) (.lit 10)))
 (.both (.goal (.le (.lit 0) (.var 2)))
 (.both (.goal (.lt (.var 2) (.lit 10)))
 (.ite (.lt (.app (.app 70 (.cons (.var 1) (.cons (.var 8) (.cons (.var 11) (.cons (.var 14) (.cons (.var 17) (.cons (.var 20) (.cons (.var 23) (.cons (.var 26) (.cons (.var 29) (.cons (.var 32) (.cons (.var 35) .nil))))))))))))) (.app (.app 70 (.cons (.var 2) (.cons (.var 9) (.cons (.var 12) (.cons (.var 15) (.cons (.var 18) (.cons (.var 21) (.cons (.var 24) (.cons (.var 27) (.cons (.var 30) (.cons (.var 33) (.cons (.var 36) .nil))))))))))))))
 (.both (.goal (.le (.lit 0) (.var 1)))
 (.both (.goal (.lt (.var 1) (.lit 10)))
 (.goal (.ite (.eq (.lit 0) (.var 100)) (.ite (.eq (.lit 2) (.var 101)) (.ite (.le (.lit 0) (.var 1)) (.ite (.eq (.var 1) (.var 102)) (.ite (.eq (.lit 1) (.var 103)) (.ite (.eq (.lit 0) (.var 104)) (.ite (.eq (.lit 4294967295) (.var 105)) (.eq (.lit 0) (.var 130)) (.lit 0)) (.lit 0)) (.lit 0)) (.lit 0)) (.lit 0)) (.lit 0)) (.lit 0)))))
 (.both (.goal (.le (.lit 0) (.var 1)))
 (.both (.goal (.lt (.var 1) (.lit 10)))
 (.goal (.ite (.eq (.lit 0) (.var 100)) (.ite (.eq (.lit 2) (.var 101)) (.ite (.le (.lit 0) (.var 1)) (.ite (.eq (.var 1) (.var 102)) (.ite (.eq (.lit 1) (.var 103)) (.ite (.eq (.wrap .u32 (.sub (.app (.app 70 (.cons (.var 1) (.cons (.var 8) (.cons (.var 11) (.cons (.var 14) (.cons (.var 17) (.cons (.var 20) (.cons (.var 23) (.cons (.var 26) (.cons (.var 29) (.cons (.var 32) (.cons (.var 35) .nil))))))))))))) (.app (.app 70 (.cons (.var 2) (.cons (.var 9) (.cons (.var 12) (.cons (.var 15) (.cons (.var 18) (.cons (.var 21) (.cons (.var 24) (.cons (.var 27) (.cons (.var 30) (.cons (.var 33) (.cons (.var 36) .nil))))))))))))))) (.var 104)) (.ite (.eq (.wrap .u32 (.sub (.app (.app 70 (.cons (.var 1) (.cons (.var 9) (.cons (.var 12) (.cons (.var 15) (.cons (.var 18) (.cons (.var 21) (.cons (.var 24) (.cons (.var 27) (.cons (.var 30) (.cons (.var 33) (.cons (.var 36) .nil))))))))))))) (.app (.app 70 (.cons (.var 2) (.cons (.var 8) (.cons (.var 11) (.cons (.var 14) (.cons (.var 17) (.cons (.var 20) (.cons (.var 23) (.cons (.var 26) (.cons (.var 29) (.cons (.var 32) (.cons (.var 35) .nil))))))))))))))) (.var 105)) (.eq (.lit 0) (.var 130)) (.lit 0)) (.lit 0)) (.lit 0)) (.lit 0)) (.lit 0)) (.lit 0)) (.lit 0)))))))))))))))
set_option maxHeartbeats 8000000 in
theorem b18_5_ev : finT (gamR behK) (chkL leaf18 (evFn Try.prog C18 20 30 18 (behA 5) [] (pre18 5))) = b18_5T := by kernel_rfl
set_option maxHeartbeats 16000000 in
theorem b18_5_holds (ρ : Env) (H : BehH ρ 5) (hctx : True) : b18_5T.Holds ρ := by
  obtain ⟨hI, h3, h4, hM, hR, rg, hV⟩ := H
  simp only [b18_5T, NT.Holds, N.denP, N.den, E.denB, E.den, E.denL, appI, hI, den_right, den_may', den_power, andIte, orIte, eS, eL, eG]
  have v0 := hV 0
  have v1 := hV 1
  have v2 := hV 2
  have v3 := hV 3
  have v4 := hV 4
  have v5 := hV 5
  have v6 := hV 6
  have v7 := hV 7
  have v8 := hV 8
  have v9 := hV 9
  have v10 := hV 10
  have v11 := hV 11
  have v12 := hV 12
  have v13 := hV 13
  have v14 := hV 14
  have v15 := hV 15
  have v16 := hV 16
  have v17 := hV 17
  have v18 := hV 18
  have v19 := hV 19
  have v20 := hV 20
  have v21 := hV 21
  have v22 := hV 22
  have v23 := hV 23
  have v24 := hV 24
  have v25 := hV 25
  have v30 := hV 30
  have v31 := hV 31
  have v32 := hV 32
  have v33 := hV 33
  have v34 := hV 34
  have v35 := hV 35
  have v36 := hV 36
  have v37 := hV 37
  have v38 := hV 38
  have v39 := hV 39
  simp only [Nat.reduceAdd, behE, rng] at v0 v1 v2 v3 v4 v5 v6 v7 v8 v9 v10 v11 v12 v13 v14 v15 v16 v17 v18 v19 v20 v21 v22 v23 v24 v25 v30 v31 v32 v33 v34 v35 v36 v37 v38 v39
  simp only [v0, v1, v2, v3, v4, v5, v6, v7, v8, v9, v10, v11, v12, v13, v14, v15, v16, v17, v18, v19, v20, v21, v22, v23, v24, v25, v30, v31, v32, v33, v34, v35, v36, v37, v38, v39]
  clear hV v0 v1 v2 v3 v4 v5 v6 v7 v8 v9 v10 v11 v12 v13 v14 v15 v16 v17 v18 v19 v20 v21 v22 v23 v24 v25 v30 v31 v32 v33 v34 v35 v36 v37 v38 v39
  have hd1 := hR (ρ.i 1)
  have hq1 := hR (ρ.i 2)
  have rd := rg (ρ.i 1)
  have rq := rg (ρ.i 2)
  clear hR rg
  generalize rS ρ (ρ.i 1) = dS at *
  generalize rL ρ (ρ.i 1) = dL at *
  generalize rG ρ (ρ.i 1) = dG at *
  generalize rS ρ (ρ.i 2) = qS at *
  generalize rL ρ (ρ.i 2) = qL at *
  generalize rG ρ (ρ.i 2) = qG at *
  generalize ρ.i 1 = dst at *
  generalize ρ.i 2 = src at *
  generalize ρ.i 3 = off at *
  generalize ρ.i 4 = imm at *
  generalize ρ.i 5 = ctx at *
  generalize ρ.b 7 = s0 at *
  clear hI
  simp [MayP, useD, useS, useM] at hM
  have g0 := @wrap2 (dL - qG)
  have g1 := @wrap2 (dG - qL)
  simp [beh, needs, useS, useM, made, fit, codeB, codeK, codeP]
  try (repeat' (first | apply And.intro | intro _))
  all_goals (try omega)
  all_goals (try (first | simp [if_pos (show dL < qG by first | omega | (intro _; omega)), codeP] | simp [if_neg (show ¬ (dL < qG) by first | omega | (intro h; have h' := h (by omega); omega)), codeP]))
  all_goals (try omega)
  all_goals (try (clear g0 g1))
  all_goals (try simp_all [codeP])
  all_goals (try omega)
  all_goals (try (first | exact quo_divi (by omega) (by omega) (by omega) | exact mnwi (by omega) (by omega) (by omega) (by omega) | exact mxw (by omega) (by omega) (by omega) (by omega) | exact wrap2i (by omega) (by omega) | exact fits_u32 (by omega) (by omega)))
  done
def b18_6T : NT :=
 (.both (.goal (.le (.lit 0) (.var 1)))
 (.both (.goal (.lt (.var 1) (.lit 10)))
 (.ite (.not (.app (.app 70 (.cons (.var 1) (.cons (.bvar 7) (.cons (.bvar 10) (.cons (.bvar 13) (.cons (.bvar 16) (.cons (.bvar 19) (.cons (.bvar 22) (.cons (.bvar 25) (.cons (.bvar 28) (.cons (.bvar 31) (.cons (.bvar 34) .nil))))))))))))))
 (.goal (.ite (.eq (.lit 161) (.var 100)) (.ite (.eq (.lit 0) (.var 101)) (.eq (.lit 0) (.var 130)) (.lit 0)) (.lit 0)))
 (.both (.goal (.le (.lit 0) (.var 1)))
 (.both (.goal (.lt (.var 1) (.lit 10)))
 (.both (.goal (.le (.lit 0) (.var 2)))
 (.both (.goal (.lt (.var 2) (.lit 10)))
 (.both (.goal (.ite (.lt (.lit 0) (.app (.app 70 (.cons (.var 1) (.cons (.var 9) (.cons (.var 12) (.cons (.var 15) (.cons (.var 18) (.cons (.var 21) (.cons (.var 24) (.cons (.var 27) (.cons (.var 30) (.cons (.var 33) (.cons (.var 36) .nil)))))))))))))) (.not (.eq (.app (.app 70 (.cons (.var 1) (.cons (.var 9) (.cons (.var 12) (.cons (.var 15) (.cons (.var 18) (.cons (.var 21) (.cons (.var 24) (.cons (.var 27) (.cons (.var 30) (.cons (.var 33) (.cons (.var 36) .nil))))))))))))) (.lit 0))) (.lit 1)))
 (.ite (.ite (.lt (.lit 0) (.app (.app 70 (.cons (.var 1) (.cons (.var 9) (.cons (.var 12) (.cons (.var 15) (.cons (.var 18) (.cons (.var 21) (.cons (.var 24) (.cons (.var 27) (.cons (.var 30) (.cons (.var 33) (.cons (.var 36) .nil)))))))))))))) (.lt (.bin .quo .i64 (.lit 4294967295) (.app (.app 70 (.cons (.var 1) (.cons (.var 9) (.cons (.var 12) (.cons (.var 15) (.cons (.var 18) (.cons (.var 21) (.cons (.var 24) (.cons (.var 27) (.cons (.var 30) (.cons (.var 33) (.cons (.var 36) .nil)))))))))))))) (.var 4)) (.lit 0))
 (.both (.goal (.le (.lit 0) (.var 1)))
 (.both (.goal (.lt (.var 1) (.lit 10)))
 (.goal (.ite (.eq (.lit 0) (.var 100)) (.ite (.eq (.lit 2) (.var 101)) (.ite (.le (.lit 0) (.var 1)) (.ite (.eq (.var 1) (.var 102)) (.ite (.eq (.lit 1) (.var 103)) (.ite (.eq (.lit 0) (.var 104)) (.ite (.eq (.lit 4294967295) (.var 105)) (.eq (.lit 0) (.var 130)) (.lit 0)) (.lit 0)) (.lit 0)) (.lit 0)) (.lit 0)) (.lit 0)) (.lit 0)))))
 (.both (.goal (.le (.lit 0) (.var 1)))
 (.both (.goal (.lt (.var 1) (.lit 10)))
 (.goal (.ite (.eq (.lit 0) (.var 100)) (.ite (.eq (.lit 2) (.var 101)) (.ite (.le (.lit 0) (.var 1)) (.ite (.eq (.var 1) (.var 102)) (.ite (.eq (.lit 1) (.var 103)) (.ite (.eq (.wrap .u32 (.wrap .i64 (.mul (.app (.app 70 (.cons (.var 1) (.cons (.var 8) (.cons (.var 11) (.cons (.var 14) (.cons (.var 17) (.cons (.var 20) (.cons (.var 23) (.cons (.var 26) (.cons (.var 29) (.cons (.var 32) (.cons (.var 35) .nil))))))))))))) (.var 4)))) (.var 104)) (.ite (.eq (.wrap .u32 (.wrap .i64 (.mul (.app (.app 70 (.cons (.var 1) (.cons (.var 9) (.cons (.var 12) (.cons (.var 15) (.cons (.var 18) (.cons (.var 21) (.cons (.var 24) (.cons (.var 27) (.cons (.var 30) (.cons (.var 33) (.cons (.var 36) .nil))))))))))))) (.var 4)))) (.var 105)) (.eq (.lit 0) (.var 130)) (.lit 0)) (.lit 0)) (.lit 0)) (.lit 0)) (.lit 0)) (.lit 0)) (.lit 0))))))))))))))
set_option maxHeartbeats 8000000 in
theorem b18_6_ev : finT (gamR behK) (chkL leaf18 (evFn Try.prog C18 20 30 18 (behA 6) [] (pre18 6))) = b18_6T := by kernel_rfl
set_option maxHeartbeats 16000000 in
theorem b18_6_holds (ρ : Env) (H : BehH ρ 6) (hctx : True) : b18_6T.Holds ρ := by
  obtain ⟨hI, h3, h4, hM, hR, rg, hV⟩ := H
  simp only [b18_6T, NT.Holds, N.denP, N.den, E.denB, E.den, E.denL, appI, hI, den_right, den_may', den_power, andIte, orIte, eS, eL, eG]
  have v0 := hV 0
  have v1 := hV 1
  have v2 := hV 2
  have v3 := hV 3
  have v4 := hV 4
  have v5 := hV 5
  have v6 := hV 6
  have v7 := hV 7
  have v8 := hV 8
  have v9 := hV 9
  have v10 := hV 10
  have v11 := hV 11
  have v12 := hV 12
  have v13 := hV 13
  have v14 := hV 14
  have v15 := hV 15
  have v16 := hV 16
  have v17 := hV 17
  have v18 := hV 18
  have v19 := hV 19
  have v20 := hV 20
  have v21 := hV 21
  have v22 := hV 22
  have v23 := hV 23
  have v24 := hV 24
  have v25 := hV 25
  have v30 := hV 30
  have v31 := hV 31
  have v32 := hV 32
  have v33 := hV 33
  have v34 := hV 34
  have v35 := hV 35
  have v36 := hV 36
  have v37 := hV 37
  have v38 := hV 38
  have v39 := hV 39
  simp only [Nat.reduceAdd, behE, rng] at v0 v1 v2 v3 v4 v5 v6 v7 v8 v9 v10 v11 v12 v13 v14 v15 v16 v17 v18 v19 v20 v21 v22 v23 v24 v25 v30 v31 v32 v33 v34 v35 v36 v37 v38 v39
  simp only [v0, v1, v2, v3, v4, v5, v6, v7, v8, v9, v10, v11, v12, v13, v14, v15, v16, v17, v18, v19, v20, v21, v22, v23, v24, v25, v30, v31, v32, v33, v34, v35, v36, v37, v38, v39]
  clear hV v0 v1 v2 v3 v4 v5 v6 v7 v8 v9 v10 v11 v12 v13 v14 v15 v16 v17 v18 v19 v20 v21 v22 v23 v24 v25 v30 v31 v32 v33 v34 v35 v36 v37 v38 v39
  have hd1 := hR (ρ.i 1)
  have hq1 := hR (ρ.i 2)
  have rd := rg (ρ.i 1)
  have rq := rg (ρ.i 2)
  clear hR rg
  generalize rS ρ (ρ.i 1) = dS at *
  generalize rL ρ (ρ.i 1) = dL at *
  generalize rG ρ (ρ.i 1) = dG at *
  generalize rS ρ (ρ.i 2) = qS at *
  generalize rL ρ (ρ.i 2) = qL at *
  generalize rG ρ (ρ.i 2) = qG at *
  generalize ρ.i 1 = dst at *
  generalize ρ.i 2 = src at *
  generalize ρ.i 3 = off at *
  generalize ρ.i 4 = imm at *
  generalize ρ.i 5 = ctx at *
  generalize ρ.b 7 = s0 at *
  clear hI
  simp [MayP, useD, useS, useM] at hM
  have f0 := mul_cond2 (d := dG) (s := imm) (by omega) (by omega)
  have g0 := @fits_u32 (dL * imm)
  have g1 := @fits_u32 (dG * imm)
  have g2 := mul_facts (a := dL) (b := dG) (c := imm) (d := imm) (by omega) (by omega) (by omega) (by omega)
  simp [beh, needs, useS, useM, made, fit, codeB, codeK, codeP, f0]
  clear f0
  try (repeat' (first | apply And.intro | intro _))
  all_goals (try omega)
  all_goals (try (first | simp [if_pos (show 4294967295 < dG * imm by first | omega | (intro _; omega)), codeP] | simp [if_neg (show ¬ (4294967295 < dG * imm) by first | omega | (intro h; have h' := h (by omega); omega)), codeP]))
  all_goals (try omega)
  all_goals (try (clear g0 g1))
  all_goals (try simp_all [codeP])
  all_goals (try omega)
  all_goals (try (first | exact quo_divi (by omega) (by omega) (by omega) | exact mnwi (by omega) (by omega) (by omega) (by omega) | exact mxw (by omega) (by omega) (by omega) (by omega) | exact wrap2i (by omega) (by omega) | exact fits_u32 (by omega) (by omega)))
  done
def b18_7T : NT :=
 (.both (.goal (.le (.lit 0) (.var 1)))
 (.both (.goal (.lt (.var 1) (.lit 10)))
 (.both (.goal (.ite (.app (.app 70 (.cons (.var 1) (.cons (.bvar 7) (.cons (.bvar 10) (.cons (.bvar 13) (.cons (.bvar 16) (.cons (.bvar 19) (.cons (.bvar 22) (.cons (.bvar 25) (.cons (.bvar 28) (.cons (.bvar 31) (.cons (.bvar 34) .nil))))))))))))) (.le (.lit 0) (.var 2)) (.lit 1)))
 (.both (.goal (.ite (.app (.app 70 (.cons (.var 1) (.cons (.bvar 7) (.cons (.bvar 10) (.cons (.bvar 13) (.cons (.bvar 16) (.cons (.bvar 19) (.cons (.bvar 22) (.cons (.bvar 25) (.cons (.bvar 28) (.cons (.bvar 31) (.cons (.bvar 34) .nil))))))))))))) (.lt (.var 2) (.lit 10)) (.lit 1)))
 (.ite (.ite (.not (.app (.app 70 (.cons (.var 1) (.cons (.bvar 7) (.cons (.bvar 10) (.cons (.bvar 13) (.cons (.bvar 16) (.cons (.bvar 19) (.cons (.bvar 22) (.cons (.bvar 25) (.cons (.bvar 28) (.cons (.bvar 31) (.cons (.bvar 34) .nil)))))))))))))) (.lit 1) (.not (.app (.app 70 (.cons (.var 2) (.cons (.bvar 7) (.cons (.bvar 10) (.cons (.bvar 13) (.cons (.bvar 16) (.cons (.bvar 19) (.cons (.bvar 22) (.cons (.bvar 25) (.cons (.bvar 28) (.cons (.bvar 31) (.cons (.bvar 34) .nil)))))))))))))))
 (.goal (.ite (.eq (.lit 161) (.var 100)) (.ite (.eq (.lit 0) (.var 101)) (.eq (.lit 0) (.var 130)) (.lit 0)) (.lit 0)))
 (.both (.goal (.le (.lit 0) (.var 1)))
 (.both (.goal (.lt (.var 1) (.lit 10)))
 (.both (.goal (.le (.lit 0) (.var 2)))
 (.both (.goal (.lt (.var 2) (.lit 10)))
 (.both (.goal (.ite (.lt (.lit 0) (.app (.app 70 (.cons (.var 1) (.cons (.var 9) (.cons (.var 12) (.cons (.var 15) (.cons (.var 18) (.cons (.var 21) (.cons (.var 24) (.cons (.var 27) (.cons (.var 30) (.cons (.var 33) (.cons (.var 36) .nil)))))))))))))) (.not (.eq (.app (.app 70 (.cons (.var 1) (.cons (.var 9) (.cons (.var 12) (.cons (.var 15) (.cons (.var 18) (.cons (.var 21) (.cons (.var 24) (.cons (.var 27) (.cons (.var 30) (.cons (.var 33) (.cons (.var 36) .nil))))))))))))) (.lit 0))) (.lit 1)))
 (.ite (.ite (.lt (.lit 0) (.app (.app 70 (.cons (.var 1) (.cons (.var 9) (.cons (.var 12) (.cons (.var 15) (.cons (.var 18) (.cons (.var 21) (.cons (.var 24) (.cons (.var 27) (.cons (.var 30) (.cons (.var 33) (.cons (.var 36) .nil)))))))))))))) (.lt (.bin .quo .i64 (.lit 4294967295) (.app (.app 70 (.cons (.var 1) (.cons (.var 9) (.cons (.var 12) (.cons (.var 15) (.cons (.var 18) (.cons (.var 21) (.cons (.var 24) (.cons (.var 27) (.cons (.var 30) (.cons (.var 33) (.cons (.var 36) .nil)))))))))))))) (.app (.app 70 (.cons (.var 2) (.cons (.var 9) (.cons (.var 12) (.cons (.var 15) (.cons (.var 18) (.cons (.var 21) (.cons (.var 24) (.cons (.var 27) (.cons (.var 30) (.cons (.var 33) (.cons (.var 36) .nil)))))))))))))) (.lit 0))
 (.both (.goal (.le (.lit 0) (.var 1)))
 (.both (.goal (.lt (.var 1) (.lit 10)))
 (.goal (.ite (.eq (.lit 0) (.var 100)) (.ite (.eq (.lit 2) (.var 101)) (.ite (.le (.lit 0) (.var 1)) (.ite (.eq (.var 1) (.var 102)) (.ite (.eq (.lit 1) (.var 103)) (.ite (.eq (.lit 0) (.var 104)) (.ite (.eq (.lit 4294967295) (.var 105)) (.eq (.lit 0) (.var 130)) (.lit 0)) (.lit 0)) (.lit 0)) (.lit 0)) (.lit 0)) (.lit 0)) (.lit 0)))))
 (.both (.goal (.le (.lit 0) (.var 1)))
 (.both (.goal (.lt (.var 1) (.lit 10)))
 (.goal (.ite (.eq (.lit 0) (.var 100)) (.ite (.eq (.lit 2) (.var 101)) (.ite (.le (.lit 0) (.var 1)) (.ite (.eq (.var 1) (.var 102)) (.ite (.eq (.lit 1) (.var 103)) (.ite (.eq (.wrap .u32 (.wrap .i64 (.mul (.app (.app 70 (.cons (.var 1) (.cons (.var 8) (.cons (.var 11) (.cons (.var 14) (.cons (.var 17) (.cons (.var 20) (.cons (.var 23) (.cons (.var 26) (.cons (.var 29) (.cons (.var 32) (.cons (.var 35) .nil))))))))))))) (.app (.app 70 (.cons (.var 2) (.cons (.var 8) (.cons (.var 11) (.cons (.var 14) (.cons (.var 17) (.cons (.var 20) (.cons (.var 23) (.cons (.var 26) (.cons (.var 29) (.cons (.var 32) (.cons (.var 35) .nil)))))))))))))))) (.var 104)) (.ite (.eq (.wrap .u32 (.wrap .i64 (.mul (.app (.app 70 (.cons (.var 1) (.cons (.var 9) (.cons (.var 12) (.cons (.var 15) (.cons (.var 18) (.cons (.var 21) (.cons (.var 24) (.cons (.var 27) (.cons (.var 30) (.cons (.var 33) (.cons (.var 36) .nil))))))))))))) (.app (.app 70 (.cons (.var 2) (.cons (.var 9) (.cons (.var 12) (.cons (.var 15) (.cons (.var 18) (.cons (.var 21) (.cons (.var 24) (.cons (.var 27) (.cons (.var 30) (.cons (.var 33) (.cons (.var 36) .nil)))))))))))))))) (.var 105)) (.eq (.lit 0) (.var 130)) (.lit 0)) (.lit 0)) (.lit 0)) (.lit 0)) (.lit 0)) (.lit 0)) (.lit 0))))))))))))))))
set_option maxHeartbeats 8000000 in
theorem b18_7_ev : finT (gamR behK) (chkL leaf18 (evFn Try.prog C18 20 30 18 (behA 7) [] (pre18 7))) = b18_7T := by kernel_rfl
set_option maxHeartbeats 16000000 in
theorem b18_7_holds (ρ : Env) (H : BehH ρ 7) (hctx : True) : b18_7T.Holds ρ := by
  obtain ⟨hI, h3, h4, hM, hR, rg, hV⟩ := H
  simp only [b18_7T, NT.Holds, N.denP, N.den, E.denB, E.den, E.denL, appI, hI, den_right, den_may', den_power, andIte, orIte, eS, eL, eG]
  have v0 := hV 0
  have v1 := hV 1
  have v2 := hV 2
  have v3 := hV 3
  have v4 := hV 4
  have v5 := hV 5
  have v6 := hV 6
  have v7 := hV 7
  have v8 := hV 8
  have v9 := hV 9
  have v10 := hV 10
  have v11 := hV 11
  have v12 := hV 12
  have v13 := hV 13
  have v14 := hV 14
  have v15 := hV 15
  have v16 := hV 16
  have v17 := hV 17
  have v18 := hV 18
  have v19 := hV 19
  have v20 := hV 20
  have v21 := hV 21
  have v22 := hV 22
  have v23 := hV 23
  have v24 := hV 24
  have v25 := hV 25
  have v30 := hV 30
  have v31 := hV 31
  have v32 := hV 32
  have v33 := hV 33
  have v34 := hV 34
  have v35 := hV 35
  have v36 := hV 36
  have v37 := hV 37
  have v38 := hV 38
  have v39 := hV 39
  simp only [Nat.reduceAdd, behE, rng] at v0 v1 v2 v3 v4 v5 v6 v7 v8 v9 v10 v11 v12 v13 v14 v15 v16 v17 v18 v19 v20 v21 v22 v23 v24 v25 v30 v31 v32 v33 v34 v35 v36 v37 v38 v39
  simp only [v0, v1, v2, v3, v4, v5, v6, v7, v8, v9, v10, v11, v12, v13, v14, v15, v16, v17, v18, v19, v20, v21, v22, v23, v24, v25, v30, v31, v32, v33, v34, v35, v36, v37, v38, v39]
  clear hV v0 v1 v2 v3 v4 v5 v6 v7 v8 v9 v10 v11 v12 v13 v14 v15 v16 v17 v18 v19 v20 v21 v22 v23 v24 v25 v30 v31 v32 v33 v34 v35 v36 v37 v38 v39
  have hd1 := hR (ρ.i 1)
  have hq1 := hR (ρ.i 2)
  have rd := rg (ρ.i 1)
  have rq := rg (ρ.i 2)
  clear hR rg
  generalize rS ρ (ρ.i 1) = dS at *
  generalize rL ρ (ρ.i 1) = dL at *
  generalize rG ρ (ρ.i 1) = dG at *
  generalize rS ρ (ρ.i 2) = qS at *
  generalize rL ρ (ρ.i 2) = qL at *
  generalize rG ρ (ρ.i 2) = qG at *
  generalize ρ.i 1 = dst at *
  generalize ρ.i 2 = src at *
  generalize ρ.i 3 = off at *
  generalize ρ.i 4 = imm at *
  generalize ρ.i 5 = ctx at *
  generalize ρ.b 7 = s0 at *
  clear hI
  simp [MayP, useD, useS, useM] at hM
  have f0 := mul_cond2 (d := dG) (s := qG) (by omega) (by omega)
  have g0 := @fits_u32 (dL * qL)
  have g1 := @fits_u32 (dG * qG)
  have g2 := mul_facts (a := dL) (b := dG) (c := qL) (d := qG) (by omega) (by omega) (by omega) (by omega)
  simp [beh, needs, useS, useM, made, fit, codeB, codeK, codeP, f0]
  clear f0
  try (repeat' (first | apply And.intro | intro _))
  all_goals (try omega)
  all_goals (try (first | simp [if_pos (show 4294967295 < dG * qG by first | omega | (intro _; omega)), codeP] | simp [if_neg (show ¬ (4294967295 < dG * qG) by first | omega | (intro h; have h' := h (by omega); omega)), codeP]))
  all_goals (try omega)
  all_goals (try (clear g0 g1))
  all_goals (try simp_all [codeP])
  all_goals (try omega)
  all_goals (try (first | exact quo_divi (by omega) (by omega) (by omega) | exact mnwi (by omega) (by omega) (by omega) (by omega) | exact mxw (by omega) (by omega) (by omega) (by omega) | exact wrap2i (by omega) (by omega) | exact fits_u32 (by omega) (by omega)))
  done
def b18_8T : NT :=
 (.both (.goal (.le (.lit 0) (.var 1)))
 (.both (.goal (.lt (.var 1) (.lit 10)))
 (.ite (.not (.app (.app 70 (.cons (.var 1) (.cons (.bvar 7) (.cons (.bvar 10) (.cons (.bvar 13) (.cons (.bvar 16) (.cons (.bvar 19) (.cons (.bvar 22) (.cons (.bvar 25) (.cons (.bvar 28) (.cons (.bvar 31) (.cons (.bvar 34) .nil))))))))))))))
 (.goal (.ite (.eq (.lit 161) (.var 100)) (.ite (.eq (.lit 0) (.var 101)) (.eq (.lit 0) (.var 130)) (.lit 0)) (.lit 0)))
 (.both (.goal (.le (.lit 0) (.var 1)))
 (.both (.goal (.lt (.var 1) (.lit 10)))
 (.both (.goal (.le (.lit 0) (.var 2)))
 (.both (.goal (.lt (.var 2) (.lit 10)))
 (.both (.goal (.le (.lit 0) (.var 1)))
 (.both (.goal (.lt (.var 1) (.lit 10)))
 (.goal (.ite (.eq (.lit 0) (.var 100)) (.ite (.eq (.lit 2) (.var 101)) (.ite (.le (.lit 0) (.var 1)) (.ite (.eq (.var 1) (.var 102)) (.ite (.eq (.lit 1) (.var 103)) (.ite (.eq (.lit 0) (.var 104)) (.ite (.eq (.ite (.lt (.var 4) (.app (.app 70 (.cons (.var 1) (.cons (.var 9) (.cons (.var 12) (.cons (.var 15) (.cons (.var 18) (.cons (.var 21) (.cons (.var 24) (.cons (.var 27) (.cons (.var 30) (.cons (.var 33) (.cons (.var 36) .nil)))))))))))))) (.var 4) (.app (.app 70 (.cons (.var 1) (.cons (.var 9) (.cons (.var 12) (.cons (.var 15) (.cons (.var 18) (.cons (.var 21) (.cons (.var 24) (.cons (.var 27) (.cons (.var 30) (.cons (.var 33) (.cons (.var 36) .nil)))))))))))))) (.var 105)) (.eq (.lit 0) (.var 130)) (.lit 0)) (.lit 0)) (.lit 0)) (.lit 0)) (.lit 0)) (.lit 0)) (.lit 0))))))))))))
set_option maxHeartbeats 8000000 in
theorem b18_8_ev : finT (gamR behK) (chkL leaf18 (evFn Try.prog C18 20 30 18 (behA 8) [] (pre18 8))) = b18_8T := by kernel_rfl
set_option maxHeartbeats 16000000 in
theorem b18_8_holds (ρ : Env) (H : BehH ρ 8) (hctx : True) : b18_8T.Holds ρ := by
  obtain ⟨hI, h3, h4, hM, hR, rg, hV⟩ := H
  simp only [b18_8T, NT.Holds, N.denP, N.den, E.denB, E.den, E.denL, appI, hI, den_right, den_may', den_power, andIte, orIte, eS, eL, eG]
  have v0 := hV 0
  have v1 := hV 1
  have v2 := hV 2
  have v3 := hV 3
  have v4 := hV 4
  have v5 := hV 5
  have v6 := hV 6
  have v7 := hV 7
  have v8 := hV 8
  have v9 := hV 9
  have v10 := hV 10
  have v11 := hV 11
  have v12 := hV 12
  have v13 := hV 13
  have v14 := hV 14
  have v15 := hV 15
  have v16 := hV 16
  have v17 := hV 17
  have v18 := hV 18
  have v19 := hV 19
  have v20 := hV 20
  have v21 := hV 21
  have v22 := hV 22
  have v23 := hV 23
  have v24 := hV 24
  have v25 := hV 25
  have v30 := hV 30
  have v31 := hV 31
  have v32 := hV 32
  have v33 := hV 33
  have v34 := hV 34
  have v35 := hV 35
  have v36 := hV 36
  have v37 := hV 37
  have v38 := hV 38
  have v39 := hV 39
  simp only [Nat.reduceAdd, behE, rng] at v0 v1 v2 v3 v4 v5 v6 v7 v8 v9 v10 v11 v12 v13 v14 v15 v16 v17 v18 v19 v20 v21 v22 v23 v24 v25 v30 v31 v32 v33 v34 v35 v36 v37 v38 v39
  simp only [v0, v1, v2, v3, v4, v5, v6, v7, v8, v9, v10, v11, v12, v13, v14, v15, v16, v17, v18, v19, v20, v21, v22, v23, v24, v25, v30, v31, v32, v33, v34, v35, v36, v37, v38, v39]
  clear hV v0 v1 v2 v3 v4 v5 v6 v7 v8 v9 v10 v11 v12 v13 v14 v15 v16 v17 v18 v19 v20 v21 v22 v23 v24 v25 v30 v31 v32 v33 v34 v35 v36 v37 v38 v39
  have hd1 := hR (ρ.i 1)
  have hq1 := hR (ρ.i 2)
  have rd := rg (ρ.i 1)
  have rq := rg (ρ.i 2)
  clear hR rg
  generalize rS ρ (ρ.i 1) = dS at *
  generalize rL ρ (ρ.i 1) = dL at *
  generalize rG ρ (ρ.i 1) = dG at *
  generalize rS ρ (ρ.i 2) = qS at *
  generalize rL ρ (ρ.i 2) = qL at *
  generalize rG ρ (ρ.i 2) = qG at *
  generalize ρ.i 1 = dst at *
  generalize ρ.i 2 = src at *
  generalize ρ.i 3 = off at *
  generalize ρ.i 4 = imm at *
  generalize ρ.i 5 = ctx at *
  generalize ρ.b 7 = s0 at *
  clear hI
  simp [MayP, useD, useS, useM] at hM
  have f0 := cif_mn dG imm
  simp [beh, needs, useS, useM, made, fit, codeB, codeK, codeP, f0]
  clear f0
  try (repeat' (first | apply And.intro | intro _))
  all_goals (try omega)
  all_goals (try omega)
  all_goals (try simp_all [codeP])
  all_goals (try omega)
  all_goals (try (first | exact quo_divi (by omega) (by omega) (by omega) | exact mnwi (by omega) (by omega) (by omega) (by omega) | exact mxw (by omega) (by omega) (by omega) (by omega) | exact wrap2i (by omega) (by omega) | exact fits_u32 (by omega) (by omega)))
  done
def b18_9T : NT :=
 (.both (.goal (.le (.lit 0) (.var 1)))
 (.both (.goal (.lt (.var 1) (.lit 10)))
 (.both (.goal (.ite (.app (.app 70 (.cons (.var 1) (.cons (.bvar 7) (.cons (.bvar 10) (.cons (.bvar 13) (.cons (.bvar 16) (.cons (.bvar 19) (.cons (.bvar 22) (.cons (.bvar 25) (.cons (.bvar 28) (.cons (.bvar 31) (.cons (.bvar 34) .nil))))))))))))) (.le (.lit 0) (.var 2)) (.lit 1)))
 (.both (.goal (.ite (.app (.app 70 (.cons (.var 1) (.cons (.bvar 7) (.cons (.bvar 10) (.cons (.bvar 13) (.cons (.bvar 16) (.cons (.bvar 19) (.cons (.bvar 22) (.cons (.bvar 25) (.cons (.bvar 28) (.cons (.bvar 31) (.cons (.bvar 34) .nil))))))))))))) (.lt (.var 2) (.lit 10)) (.lit 1)))
 (.ite (.ite (.not (.app (.app 70 (.cons (.var 1) (.cons (.bvar 7) (.cons (.bvar 10) (.cons (.bvar 13) (.cons (.bvar 16) (.cons (.bvar 19) (.cons (.bvar 22) (.cons (.bvar 25) (.cons (.bvar 28) (.cons (.bvar 31) (.cons (.bvar 34) .nil)))))))))))))) (.lit 1) (.not (.app (.app 70 (.cons (.var 2) (.cons (.bvar 7) (.cons (.bvar 10) (.cons (.bvar 13) (.cons (.bvar 16) (.cons (.bvar 19) (.cons (.bvar 22) (.cons (.bvar 25) (.cons (.bvar 28) (.cons (.bvar 31) (.cons (.bvar 34) .nil)))))))))))))))
 (.goal (.ite (.eq (.lit 161) (.var 100)) (.ite (.eq (.lit 0) (.var 101)) (.eq (.lit 0) (.var 130)) (.lit 0)) (.lit 0)))
 (.both (.goal (.le (.lit 0) (.var 1)))
 (.both (.goal (.lt (.var 1) (.lit 10)))
 (.both (.goal (.le (.lit 0) (.var 2)))
 (.both (.goal (.lt (.var 2) (.lit 10)))
 (.both (.goal (.le (.lit 0) (.var 1)))
 (.both (.goal (.lt (.var 1) (.lit 10)))
 (.goal (.ite (.eq (.lit 0) (.var 100)) (.ite (.eq (.lit 2) (.var 101)) (.ite (.le (.lit 0) (.var 1)) (.ite (.eq (.var 1) (.var 102)) (.ite (.eq (.lit 1) (.var 103)) (.ite (.eq (.lit 0) (.var 104)) (.ite (.eq (.ite (.lt (.app (.app 70 (.cons (.var 2) (.cons (.var 9) (.cons (.var 12) (.cons (.var 15) (.cons (.var 18) (.cons (.var 21) (.cons (.var 24) (.cons (.var 27) (.cons (.var 30) (.cons (.var 33) (.cons (.var 36) .nil))))))))))))) (.app (.app 70 (.cons (.var 1) (.cons (.var 9) (.cons (.var 12) (.cons (.var 15) (.cons (.var 18) (.cons (.var 21) (.cons (.var 24) (.cons (.var 27) (.cons (.var 30) (.cons (.var 33) (.cons (.var 36) .nil)))))))))))))) (.app (.app 70 (.cons (.var 2) (.cons (.var 9) (.cons (.var 12) (.cons (.var 15) (.cons (.var 18) (.cons (.var 21) (.cons (.var 24) (.cons (.var 27) (.cons (.var 30) (.cons (.var 33) (.cons (.var 36) .nil))))))))))))) (.app (.app 70 (.cons (.var 1) (.cons (.var 9) (.cons (.var 12) (.cons (.var 15) (.cons (.var 18) (.cons (.var 21) (.cons (.var 24) (.cons (.var 27) (.cons (.var 30) (.cons (.var 33) (.cons (.var 36) .nil)))))))))))))) (.var 105)) (.eq (.lit 0) (.var 130)) (.lit 0)) (.lit 0)) (.lit 0)) (.lit 0)) (.lit 0)) (.lit 0)) (.lit 0))))))))))))))
set_option maxHeartbeats 8000000 in
theorem b18_9_ev : finT (gamR behK) (chkL leaf18 (evFn Try.prog C18 20 30 18 (behA 9) [] (pre18 9))) = b18_9T := by kernel_rfl
set_option maxHeartbeats 16000000 in
theorem b18_9_holds (ρ : Env) (H : BehH ρ 9) (hctx : True) : b18_9T.Holds ρ := by
  obtain ⟨hI, h3, h4, hM, hR, rg, hV⟩ := H
  simp only [b18_9T, NT.Holds, N.denP, N.den, E.denB, E.den, E.denL, appI, hI, den_right, den_may', den_power, andIte, orIte, eS, eL, eG]
  have v0 := hV 0
  have v1 := hV 1
  have v2 := hV 2
  have v3 := hV 3
  have v4 := hV 4
  have v5 := hV 5
  have v6 := hV 6
  have v7 := hV 7
  have v8 := hV 8
  have v9 := hV 9
  have v10 := hV 10
  have v11 := hV 11
  have v12 := hV 12
  have v13 := hV 13
  have v14 := hV 14
  have v15 := hV 15
  have v16 := hV 16
  have v17 := hV 17
  have v18 := hV 18
  have v19 := hV 19
  have v20 := hV 20
  have v21 := hV 21
  have v22 := hV 22
  have v23 := hV 23
  have v24 := hV 24
  have v25 := hV 25
  have v30 := hV 30
  have v31 := hV 31
  have v32 := hV 32
  have v33 := hV 33
  have v34 := hV 34
  have v35 := hV 35
  have v36 := hV 36
  have v37 := hV 37
  have v38 := hV 38
  have v39 := hV 39
  simp only [Nat.reduceAdd, behE, rng] at v0 v1 v2 v3 v4 v5 v6 v7 v8 v9 v10 v11 v12 v13 v14 v15 v16 v17 v18 v19 v20 v21 v22 v23 v24 v25 v30 v31 v32 v33 v34 v35 v36 v37 v38 v39
  simp only [v0, v1, v2, v3, v4, v5, v6, v7, v8, v9, v10, v11, v12, v13, v14, v15, v16, v17, v18, v19, v20, v21, v22, v23, v24, v25, v30, v31, v32, v33, v34, v35, v36, v37, v38, v39]
  clear hV v0 v1 v2 v3 v4 v5 v6 v7 v8 v9 v10 v11 v12 v13 v14 v15 v16 v17 v18 v19 v20 v21 v22 v23 v24 v25 v30 v31 v32 v33 v34 v35 v36 v37 v38 v39
  have hd1 := hR (ρ.i 1)
  have hq1 := hR (ρ.i 2)
  have rd := rg (ρ.i 1)
  have rq := rg (ρ.i 2)
  clear hR rg
  generalize rS ρ (ρ.i 1) = dS at *
  generalize rL ρ (ρ.i 1) = dL at *
  generalize rG ρ (ρ.i 1) = dG at *
  generalize rS ρ (ρ.i 2) = qS at *
  generalize rL ρ (ρ.i 2) = qL at *
  generalize rG ρ (ρ.i 2) = qG at *
  generalize ρ.i 1 = dst at *
  generalize ρ.i 2 = src at *
  generalize ρ.i 3 = off at *
  generalize ρ.i 4 = imm at *
  generalize ρ.i 5 = ctx at *
  generalize ρ.b 7 = s0 at *
  clear hI
  simp [MayP, useD, useS, useM] at hM
  have f0 := cif_mn dG qG
  simp [beh, needs, useS, useM, made, fit, codeB, codeK, codeP, f0]
  clear f0
  try (repeat' (first | apply And.intro | intro _))
  all_goals (try omega)
  all_goals (try omega)
  all_goals (try simp_all [codeP])
  all_goals (try omega)
  all_goals (try (first | exact quo_divi (by omega) (by omega) (by omega) | exact mnwi (by omega) (by omega) (by omega) (by omega) | exact mxw (by omega) (by omega) (by omega) (by omega) | exact wrap2i (by omega) (by omega) | exact fits_u32 (by omega) (by omega)))
  done
def b18_10T : NT :=
 (.both (.goal (.le (.lit 0) (.var 1)))
 (.both (.goal (.lt (.var 1) (.lit 10)))
 (.both (.goal (.ite (.app (.app 70 (.cons (.var 1) (.cons (.bvar 7) (.cons (.bvar 10) (.cons (.bvar 13) (.cons (.bvar 16) (.cons (.bvar 19) (.cons (.bvar 22) (.cons (.bvar 25) (.cons (.bvar 28) (.cons (.bvar 31) (.cons (.bvar 34) .nil))))))))))))) (.le (.lit 0) (.var 2)) (.lit 1)))
 (.both (.goal (.ite (.app (.app 70 (.cons (.var 1) (.cons (.bvar 7) (.cons (.bvar 10) (.cons (.bvar 13) (.cons (.bvar 16) (.cons (.bvar 19) (.cons (.bvar 22) (.cons (.bvar 25) (.cons (.bvar 28) (.cons (.bvar 31) (.cons (.bvar 34) .nil))))))))))))) (.lt (.var 2) (.lit 10)) (.lit 1)))
 (.ite (.ite (.not (.app (.app 70 (.cons (.var 1) (.cons (.bvar 7) (.cons (.bvar 10) (.cons (.bvar 13) (.cons (.bvar 16) (.cons (.bvar 19) (.cons (.bvar 22) (.cons (.bvar 25) (.cons (.bvar 28) (.cons (.bvar 31) (.cons (.bvar 34) .nil)))))))))))))) (.lit 1) (.not (.app (.app 70 (.cons (.var 2) (.cons (.bvar 7) (.cons (.bvar 10) (.cons (.bvar 13) (.cons (.bvar 16) (.cons (.bvar 19) (.cons (.bvar 22) (.cons (.bvar 25) (.cons (.bvar 28) (.cons (.bvar 31) (.cons (.bvar 34) .nil)))))))))))))))
 (.goal (.ite (.eq (.lit 161) (.var 100)) (.ite (.eq (.lit 0) (.var 101)) (.eq (.lit 0) (.var 130)) (.lit 0)) (.lit 0)))
 (.both (.goal (.le (.lit 0) (.var 1)))
 (.both (.goal (.lt (.var 1) (.lit 10)))
 (.both (.goal (.le (.lit 0) (.var 2)))
 (.both (.goal (.lt (.var 2) (.lit 10)))
 (.both (.goal (.le (.lit 0) (.var 1)))
 (.both (.goal (.lt (.var 1) (.lit 10)))
 (.goal (.ite (.eq (.lit 0) (.var 100)) (.ite (.eq (.lit 2) (.var 101)) (.ite (.le (.lit 0) (.var 1)) (.ite (.eq (.var 1) (.var 102)) (.ite (.eq (.lit 1) (.var 103)) (.ite (.eq (.ite (.lt (.app (.app 70 (.cons (.var 1) (.cons (.var 8) (.cons (.var 11) (.cons (.var 14) (.cons (.var 17) (.cons (.var 20) (.cons (.var 23) (.cons (.var 26) (.cons (.var 29) (.cons (.var 32) (.cons (.var 35) .nil))))))))))))) (.app (.app 70 (.cons (.var 2) (.cons (.var 8) (.cons (.var 11) (.cons (.var 14) (.cons (.var 17) (.cons (.var 20) (.cons (.var 23) (.cons (.var 26) (.cons (.var 29) (.cons (.var 32) (.cons (.var 35) .nil)))))))))))))) (.app (.app 70 (.cons (.var 2) (.cons (.var 8) (.cons (.var 11) (.cons (.var 14) (.cons (.var 17) (.cons (.var 20) (.cons (.var 23) (.cons (.var 26) (.cons (.var 29) (.cons (.var 32) (.cons (.var 35) .nil))))))))))))) (.app (.app 70 (.cons (.var 1) (.cons (.var 8) (.cons (.var 11) (.cons (.var 14) (.cons (.var 17) (.cons (.var 20) (.cons (.var 23) (.cons (.var 26) (.cons (.var 29) (.cons (.var 32) (.cons (.var 35) .nil)))))))))))))) (.var 104)) (.ite (.eq (.wrap .u32 (.app (.app 71 (.cons (.ite (.lt (.wrap .i64 (.app 70 (.cons (.var 1) (.cons (.var 9) (.cons (.var 12) (.cons (.var 15) (.cons (.var 18) (.cons (.var 21) (.cons (.var 24) (.cons (.var 27) (.cons (.var 30) (.cons (.var 33) (.cons (.var 36) .nil))))))))))))) (.wrap .i64 (.app 70 (.cons (.var 2) (.cons (.var 9) (.cons (.var 12) (.cons (.var 15) (.cons (.var 18) (.cons (.var 21) (.cons (.var 24) (.cons (.var 27) (.cons (.var 30) (.cons (.var 33) (.cons (.var 36) .nil)))))))))))))) (.wrap .i64 (.app 70 (.cons (.var 2) (.cons (.var 9) (.cons (.var 12) (.cons (.var 15) (.cons (.var 18) (.cons (.var 21) (.cons (.var 24) (.cons (.var 27) (.cons (.var 30) (.cons (.var 33) (.cons (.var 36) .nil))))))))))))) (.wrap .i64 (.app 70 (.cons (.var 1) (.cons (.var 9) (.cons (.var 12) (.cons (.var 15) (.cons (.var 18) (.cons (.var 21) (.cons (.var 24) (.cons (.var 27) (.cons (.var 30) (.cons (.var 33) (.cons (.var 36) .nil)))))))))))))) .nil)))) (.var 105)) (.eq (.lit 0) (.var 130)) (.lit 0)) (.lit 0)) (.lit 0)) (.lit 0)) (.lit 0)) (.lit 0)) (.lit 0))))))))))))))
set_option maxHeartbeats 8000000 in
theorem b18_10_ev : finT (gamR behK) (chkL leaf18 (evFn Try.prog C18 20 30 18 (behA 10) [] (pre18 10))) = b18_10T := by kernel_rfl
set_option maxHeartbeats 16000000 in
theorem b18_10_holds (ρ : Env) (H : BehH ρ 10) (hctx : True) : b18_10T.Holds ρ := by
  obtain ⟨hI, h3, h4, hM, hR, rg, hV⟩ := H
  simp only [b18_10T, NT.Holds, N.denP, N.den, E.denB, E.den, E.denL, appI, hI, den_right, den_may', den_power, andIte, orIte, eS, eL, eG]
  have v0 := hV 0
  have v1 := hV 1
  have v2 := hV 2
  have v3 := hV 3
  have v4 := hV 4
  have v5 := hV 5
  have v6 := hV 6
  have v7 := hV 7
  have v8 := hV 8
  have v9 := hV 9
  have v10 := hV 10
  have v11 := hV 11
  have v12 := hV 12
  have v13 := hV 13
  have v14 := hV 14
  have v15 := hV 15
  have v16 := hV 16
  have v17 := hV 17
  have v18 := hV 18
  have v19 := hV 19
  have v20 := hV 20
  have v21 := hV 21
  have v22 := hV 22
  have v23 := hV 23
  have v24 := hV 24
  have v25 := hV 25
  have v30 := hV 30
  have v31 := hV 31
  have v32 := hV 32
  have v33 := hV 33
  have v34 := hV 34
  have v35 := hV 35
  have v36 := hV 36
  have v37 := hV 37
  have v38 := hV 38
  have v39 := hV 39
  simp only [Nat.reduceAdd, behE, rng] at v0 v1 v2 v3 v4 v5 v6 v7 v8 v9 v10 v11 v12 v13 v14 v15 v16 v17 v18 v19 v20 v21 v22 v23 v24 v25 v30 v31 v32 v33 v34 v35 v36 v37 v38 v39
  simp only [v0, v1, v2, v3, v4, v5, v6, v7, v8, v9, v10, v11, v12, v13, v14, v15, v16, v17, v18, v19, v20, v21, v22, v23, v24, v25, v30, v31, v32, v33, v34, v35, v36, v37, v38, v39]
  clear hV v0 v1 v2 v3 v4 v5 v6 v7 v8 v9 v10 v11 v12 v13 v14 v15 v16 v17 v18 v19 v20 v21 v22 v23 v24 v25 v30 v31 v32 v33 v34 v35 v36 v37 v38 v39
  have hd1 := hR (ρ.i 1)
  have hq1 := hR (ρ.i 2)
  have rd := rg (ρ.i 1)
  have rq := rg (ρ.i 2)
  clear hR rg
  generalize rS ρ (ρ.i 1) = dS at *
  generalize rL ρ (ρ.i 1) = dL at *
  generalize rG ρ (ρ.i 1) = dG at *
  generalize rS ρ (ρ.i 2) = qS at *
  generalize rL ρ (ρ.i 2) = qL at *
  generalize rG ρ (ρ.i 2) = qG at *
  generalize ρ.i 1 = dst at *
  generalize ρ.i 2 = src at *
  generalize ρ.i 3 = off at *
  generalize ρ.i 4 = imm at *
  generalize ρ.i 5 = ctx at *
  generalize ρ.b 7 = s0 at *
  clear hI
  simp [MayP, useD, useS, useM] at hM
  have f0 := cif_mx dL qL
  have f1 := ones_mxi (a := dG) (b := qG) (by omega) (by omega) (by omega) (by omega)
  simp [beh, needs, useS, useM, made, fit, codeB, codeK, codeP, f0, f1]
  clear f0 f1
  try (repeat' (first | apply And.intro | intro _))
  all_goals (try omega)
  all_goals (try omega)
  all_goals (try simp_all [codeP])
  all_goals (try omega)
  all_goals (try (first | exact quo_divi (by omega) (by omega) (by omega) | exact mnwi (by omega) (by omega) (by omega) (by omega) | exact mxw (by omega) (by omega) (by omega) (by omega) | exact wrap2i (by omega) (by omega) | exact fits_u32 (by omega) (by omega)))
  done
def b18_11T : NT :=
 (.both (.goal (.le (.lit 0) (.var 1)))
 (.both (.goal (.lt (.var 1) (.lit 10)))
 (.both (.goal (.ite (.app (.app 70 (.cons (.var 1) (.cons (.bvar 7) (.cons (.bvar 10) (.cons (.bvar 13) (.cons (.bvar 16) (.cons (.bvar 19) (.cons (.bvar 22) (.cons (.bvar 25) (.cons (.bvar 28) (.cons (.bvar 31) (.cons (.bvar 34) .nil))))))))))))) (.le (.lit 0) (.var 2)) (.lit 1)))
 (.both (.goal (.ite (.app (.app 70 (.cons (.var 1) (.cons (.bvar 7) (.cons (.bvar 10) (.cons (.bvar 13) (.cons (.bvar 16) (.cons (.bvar 19) (.cons (.bvar 22) (.cons (.bvar 25) (.cons (.bvar 28) (.cons (.bvar 31) (.cons (.bvar 34) .nil))))))))))))) (.lt (.var 2) (.lit 10)) (.lit 1)))
 (.ite (.ite (.not (.app (.app 70 (.cons (.var 1) (.cons (.bvar 7) (.cons (.bvar 10) (.cons (.bvar 13) (.cons (.bvar 16) (.cons (.bvar 19) (.cons (.bvar 22) (.cons (.bvar 25) (.cons (.bvar 28) (.cons (.bvar 31) (.cons (.bvar 34) .nil)))))))))))))) (.lit 1) (.not (.app (.app 70 (.cons (.var 2) (.cons (.bvar 7) (.cons (.bvar 10) (.cons (.bvar 13) (.cons (.bvar 16) (.cons (.bvar 19) (.cons (.bvar 22) (.cons (.bvar 25) (.cons (.bvar 28) (.cons (.bvar 31) (.cons (.bvar 34) .nil)))))))))))))))
 (.goal (.ite (.eq (.lit 161) (.var 100)) (.ite (.eq (.lit 0) (.var 101)) (.eq (.lit 0) (.var 130)) (.lit 0)) (.lit 0)))
 (.both (.goal (.le (.lit 0) (.var 1)))
 (.both (.goal (.lt (.var 1) (.lit 10)))
 (.both (.goal (.le (.lit 0) (.var 2)))
 (.both (.goal (.lt (.var 2) (.lit 10)))
 (.both (.goal (.le (.lit 0) (.var 1)))
 (.both (.goal (.lt (.var 1) (.lit 10)))
 (.goal (.ite (.eq (.lit 0) (.var 100)) (.ite (.eq (.lit 2) (.var 101)) (.ite (.le (.lit 0) (.var 1)) (.ite (.eq (.var 1) (.var 102)) (.ite (.eq (.lit 1) (.var 103)) (.ite (.eq (.lit 0) (.var 104)) (.ite (.eq (.wrap .u32 (.app (.app 71 (.cons (.ite (.lt (.wrap .i64 (.app 70 (.cons (.var 1) (.cons (.var 9) (.cons (.var 12) (.cons (.var 15) (.cons (.var 18) (.cons (.var 21) (.cons (.var 24) (.cons (.var 27) (.cons (.var 30) (.cons (.var 33) (.cons (.var 36) .nil))))))))))))) (.wrap .i64 (.app 70 (.cons (.var 2) (.cons (.var 9) (.cons (.var 12) (.cons (.var 15) (.cons (.var 18) (.cons (.var 21) (.cons (.var 24) (.cons (.var 27) (.cons (.var 30) (.cons (.var 33) (.cons (.var 36) .nil)))))))))))))) (.wrap .i64 (.app 70 (.cons (.var 2) (.cons (.var 9) (.cons (.var 12) (.cons (.var 15) (.cons (.var 18) (.cons (.var 21) (.cons (.var 24) (.cons (.var 27) (.cons (.var 30) (.cons (.var 33) (.cons (.var 36) .nil))))))))))))) (.wrap .i64 (.app 70 (.cons (.var 1) (.cons (.var 9) (.cons (.var 12) (.cons (.var 15) (.cons (.var 18) (.cons (.var 21) (.cons (.var 24) (.cons (.var 27) (.cons (.var 30) (.cons (.var 33) (.cons (.var 36) .nil)))))))))))))) .nil)))) (.var 105)) (.eq (.lit 0) (.var 130)) (.lit 0)) (.lit 0)) (.lit 0)) (.lit 0)) (.lit 0)) (.lit 0)) (.lit 0))))))))))))))
set_option maxHeartbeats 8000000 in
theorem b18_11_ev : finT (gamR behK) (chkL leaf18 (evFn Try.prog C18 20 30 18 (behA 11) [] (pre18 11))) = b18_11T := by kernel_rfl
set_option maxHeartbeats 16000000 in
theorem b18_11_holds (ρ : Env) (H : BehH ρ 11) (hctx : True) : b18_11T.Holds ρ := by
  obtain ⟨hI, h3, h4, hM, hR, rg, hV⟩ := H
  simp only [b18_11T, NT.Holds, N.denP, N.den, E.denB, E.den, E.denL, appI, hI, den_right, den_may', den_power, andIte, orIte, eS, eL, eG]
  have v0 := hV 0
  have v1 := hV 1
  have v2 := hV 2
  have v3 := hV 3
  have v4 := hV 4
  have v5 := hV 5
  have v6 := hV 6
  have v7 := hV 7
  have v8 := hV 8
  have v9 := hV 9
  have v10 := hV 10
  have v11 := hV 11
  have v12 := hV 12
  have v13 := hV 13
  have v14 := hV 14
  have v15 := hV 15
  have v16 := hV 16
  have v17 := hV 17
  have v18 := hV 18
  have v19 := hV 19
  have v20 := hV 20
  have v21 := hV 21
  have v22 := hV 22
  have v23 := hV 23
  have v24 := hV 24
  have v25 := hV 25
  have v30 := hV 30
  have v31 := hV 31
  have v32 := hV 32
  have v33 := hV 33
  have v34 := hV 34
  have v35 := hV 35
  have v36 := hV 36
  have v37 := hV 37
  have v38 := hV 38
  have v39 := hV 39
  simp only [Nat.reduceAdd, behE, rng] at v0 v1 v2 v3 v4 v5 v6 v7 v8 v9 v10 v11 v12 v13 v14 v15 v16 v17 v18 v19 v20 v21 v22 v23 v24 v25 v30 v31 v32 v33 v34 v35 v36 v37 v38 v39
  simp only [v0, v1, v2, v3, v4, v5, v6, v7, v8, v9, v10, v11, v12, v13, v14, v15, v16, v17, v18, v19, v20, v21, v22, v23, v24, v25, v30, v31, v32, v33, v34, v35, v36, v37, v38, v39]
  clear hV v0 v1 v2 v3 v4 v5 v6 v7 v8 v9 v10 v11 v12 v13 v14 v15 v16 v17 v18 v19 v20 v21 v22 v23 v24 v25 v30 v31 v32 v33 v34 v35 v36 v37 v38 v39
  have hd1 := hR (ρ.i 1)
  have hq1 := hR (ρ.i 2)
  have rd := rg (ρ.i 1)
  have rq := rg (ρ.i 2)
  clear hR rg
  generalize rS ρ (ρ.i 1) = dS at *
  generalize rL ρ (ρ.i 1) = dL at *
  generalize rG ρ (ρ.i 1) = dG at *
  generalize rS ρ (ρ.i 2) = qS at *
  generalize rL ρ (ρ.i 2) = qL at *
  generalize rG ρ (ρ.i 2) = qG at *
  generalize ρ.i 1 = dst at *
  generalize ρ.i 2 = src at *
  generalize ρ.i 3 = off at *
  generalize ρ.i 4 = imm at *
  generalize ρ.i 5 = ctx at *
  generalize ρ.b 7 = s0 at *
  clear hI
  simp [MayP, useD, useS, useM] at hM
  have f0 := ones_mxi (a := dG) (b := qG) (by omega) (by omega) (by omega) (by omega)
  simp [beh, needs, useS, useM, made, fit, codeB, codeK, codeP, f0]
  clear f0
  try (repeat' (first | apply And.intro | intro _))
  all_goals (try omega)
  all_goals (try omega)
  all_goals (try simp_all [codeP])
  all_goals (try omega)
  all_goals (try (first | exact quo_divi (by omega) (by omega) (by omega) | exact mnwi (by omega) (by omega) (by omega) (by omega) | exact mxw (by omega) (by omega) (by omega) (by omega) | exact wrap2i (by omega) (by omega) | exact fits_u32 (by omega) (by omega)))
  done
def b18_12T : NT :=
 (.both (.goal (.le (.lit 0) (.var 1)))
 (.both (.goal (.lt (.var 1) (.lit 10)))
 (.ite (.not (.app (.app 70 (.cons (.var 1) (.cons (.bvar 7) (.cons (.bvar 10) (.cons (.bvar 13) (.cons (.bvar 16) (.cons (.bvar 19) (.cons (.bvar 22) (.cons (.bvar 25) (.cons (.bvar 28) (.cons (.bvar 31) (.cons (.bvar 34) .nil))))))))))))))
 (.goal (.ite (.eq (.lit 161) (.var 100)) (.ite (.eq (.lit 0) (.var 101)) (.eq (.lit 0) (.var 130)) (.lit 0)) (.lit 0)))
 (.both (.goal (.le (.lit 0) (.var 1)))
 (.both (.goal (.lt (.var 1) (.lit 10)))
 (.both (.goal (.le (.lit 0) (.var 2)))
 (.both (.goal (.lt (.var 2) (.lit 10)))
 (.both (.goal (.le (.var 4) (.lit 31)))
 (.both (.goal (.le (.var 4) (.lit 31)))
 (.both (.goal (.ite (.lt (.lit 0) (.app (.app 70 (.cons (.var 1) (.cons (.var 9) (.cons (.var 12) (.cons (.var 15) (.cons (.var 18) (.cons (.var 21) (.cons (.var 24) (.cons (.var 27) (.cons (.var 30) (.cons (.var 33) (.cons (.var 36) .nil)))))))))))))) (.not (.eq (.app (.app 70 (.cons (.var 1) (.cons (.var 9) (.cons (.var 12) (.cons (.var 15) (.cons (.var 18) (.cons (.var 21) (.cons (.var 24) (.cons (.var 27) (.cons (.var 30) (.cons (.var 33) (.cons (.var 36) .nil))))))))))))) (.lit 0))) (.lit 1)))
 (.ite (.ite (.lt (.lit 0) (.app (.app 70 (.cons (.var 1) (.cons (.var 9) (.cons (.var 12) (.cons (.var 15) (.cons (.var 18) (.cons (.var 21) (.cons (.var 24) (.cons (.var 27) (.cons (.var 30) (.cons (.var 33) (.cons (.var 36) .nil)))))))))))))) (.lt (.bin .quo .i64 (.lit 4294967295) (.app (.app 70 (.cons (.var 1) (.cons (.var 9) (.cons (.var 12) (.cons (.var 15) (.cons (.var 18) (.cons (.var 21) (.cons (.var 24) (.cons (.var 27) (.cons (.var 30) (.cons (.var 33) (.cons (.var 36) .nil)))))))))))))) (.app (.app 72 (.cons (.wrap .i64 (.var 4)) .nil)))) (.lit 0))
 (.both (.goal (.le (.lit 0) (.var 1)))
 (.both (.goal (.lt (.var 1) (.lit 10)))
 (.goal (.ite (.eq (.lit 0) (.var 100)) (.ite (.eq (.lit 2) (.var 101)) (.ite (.le (.lit 0) (.var 1)) (.ite (.eq (.var 1) (.var 102)) (.ite (.eq (.lit 1) (.var 103)) (.ite (.eq (.lit 0) (.var 104)) (.ite (.eq (.lit 4294967295) (.var 105)) (.eq (.lit 0) (.var 130)) (.lit 0)) (.lit 0)) (.lit 0)) (.lit 0)) (.lit 0)) (.lit 0)) (.lit 0)))))
 (.both (.goal (.le (.lit 0) (.var 1)))
 (.both (.goal (.lt (.var 1) (.lit 10)))
 (.goal (.ite (.eq (.lit 0) (.var 100)) (.ite (.eq (.lit 2) (.var 101)) (.ite (.le (.lit 0) (.var 1)) (.ite (.eq (.var 1) (.var 102)) (.ite (.eq (.lit 1) (.var 103)) (.ite (.eq (.wrap .u32 (.wrap .i64 (.mul (.app (.app 70 (.cons (.var 1) (.cons (.var 8) (.cons (.var 11) (.cons (.var 14) (.cons (.var 17) (.cons (.var 20) (.cons (.var 23) (.cons (.var 26) (.cons (.var 29) (.cons (.var 32) (.cons (.var 35) .nil))))))))))))) (.app (.app 72 (.cons (.wrap .i64 (.var 4)) .nil)))))) (.var 104)) (.ite (.eq (.wrap .u32 (.wrap .i64 (.mul (.app (.app 70 (.cons (.var 1) (.cons (.var 9) (.cons (.var 12) (.cons (.var 15) (.cons (.var 18) (.cons (.var 21) (.cons (.var 24) (.cons (.var 27) (.cons (.var 30) (.cons (.var 33) (.cons (.var 36) .nil))))))))))))) (.app (.app 72 (.cons (.wrap .i64 (.var 4)) .nil)))))) (.var 105)) (.eq (.lit 0) (.var 130)) (.lit 0)) (.lit 0)) (.lit 0)) (.lit 0)) (.lit 0)) (.lit 0)) (.lit 0))))))))))))))))
set_option maxHeartbeats 8000000 in
theorem b18_12_ev : finT (gamR behK) (chkL leaf18 (evFn Try.prog C18 20 30 18 (behA 12) [] (pre18 12))) = b18_12T := by kernel_rfl
set_option maxHeartbeats 16000000 in
theorem b18_12_holds (ρ : Env) (H : BehH ρ 12) (hctx : True) : b18_12T.Holds ρ := by
  obtain ⟨hI, h3, h4, hM, hR, rg, hV⟩ := H
  simp only [b18_12T, NT.Holds, N.denP, N.den, E.denB, E.den, E.denL, appI, hI, den_right, den_may', den_power, andIte, orIte, eS, eL, eG]
  have v0 := hV 0
  have v1 := hV 1
  have v2 := hV 2
  have v3 := hV 3
  have v4 := hV 4
  have v5 := hV 5
  have v6 := hV 6
  have v7 := hV 7
  have v8 := hV 8
  have v9 := hV 9
  have v10 := hV 10
  have v11 := hV 11
  have v12 := hV 12
  have v13 := hV 13
  have v14 := hV 14
  have v15 := hV 15
  have v16 := hV 16
  have v17 := hV 17
  have v18 := hV 18
  have v19 := hV 19
  have v20 := hV 20
  have v21 := hV 21
  have v22 := hV 22
  have v23 := hV 23
  have v24 := hV 24
  have v25 := hV 25
  have v30 := hV 30
  have v31 := hV 31
  have v32 := hV 32
  have v33 := hV 33
  have v34 := hV 34
  have v35 := hV 35
  have v36 := hV 36
  have v37 := hV 37
  have v38 := hV 38
  have v39 := hV 39
  simp only [Nat.reduceAdd, behE, rng] at v0 v1 v2 v3 v4 v5 v6 v7 v8 v9 v10 v11 v12 v13 v14 v15 v16 v17 v18 v19 v20 v21 v22 v23 v24 v25 v30 v31 v32 v33 v34 v35 v36 v37 v38 v39
  simp only [v0, v1, v2, v3, v4, v5, v6, v7, v8, v9, v10, v11, v12, v13, v14, v15, v16, v17, v18, v19, v20, v21, v22, v23, v24, v25, v30, v31, v32, v33, v34, v35, v36, v37, v38, v39]
  clear hV v0 v1 v2 v3 v4 v5 v6 v7 v8 v9 v10 v11 v12 v13 v14 v15 v16 v17 v18 v19 v20 v21 v22 v23 v24 v25 v30 v31 v32 v33 v34 v35 v36 v37 v38 v39
  have hd1 := hR (ρ.i 1)
  have hq1 := hR (ρ.i 2)
  have rd := rg (ρ.i 1)
  have rq := rg (ρ.i 2)
  clear hR rg
  generalize rS ρ (ρ.i 1) = dS at *
  generalize rL ρ (ρ.i 1) = dL at *
  generalize rG ρ (ρ.i 1) = dG at *
  generalize rS ρ (ρ.i 2) = qS at *
  generalize rL ρ (ρ.i 2) = qL at *
  generalize rG ρ (ρ.i 2) = qG at *
  generalize ρ.i 1 = dst at *
  generalize ρ.i 2 = src at *
  generalize ρ.i 3 = off at *
  generalize ρ.i 4 = imm at *
  generalize ρ.i 5 = ctx at *
  generalize ρ.b 7 = s0 at *
  clear hI
  simp [MayP, useD, useS, useM] at hM
  have g2 := pow_le (i := imm) (by omega)
  have f0 := fits_i64 (x := imm) (by omega) (by omega)
  have f1 := mul_cond2 (d := dG) (s := 2 ^ imm.toNat) (by omega) (by omega)
  have g0 := @fits_u32 (dL * 2 ^ imm.toNat)
  have g1 := @fits_u32 (dG * 2 ^ imm.toNat)
  have g3 := mul_facts (a := dL) (b := dG) (c := 2 ^ imm.toNat) (d := 2 ^ imm.toNat) (by omega) (by omega) (by omega) (by omega)
  simp [beh, needs, useS, useM, made, fit, codeB, codeK, codeP, f0, f1]
  clear f0 f1
  try (repeat' (first | apply And.intro | intro _))
  all_goals (try omega)
  all_goals (try (first | simp [if_pos (show 4294967295 < dG * 2 ^ imm.toNat by first | omega | (intro _; omega)), codeP] | simp [if_neg (show ¬ (4294967295 < dG * 2 ^ imm.toNat) by first | omega | (intro h; have h' := h (by omega); omega)), codeP]))
  all_goals (try omega)
  all_goals (try (clear g0 g1))
  all_goals (try simp_all [codeP])
  all_goals (try omega)
  all_goals (try (first | exact quo_divi (by omega) (by omega) (by omega) | exact mnwi (by omega) (by omega) (by omega) (by omega) | exact mxw (by omega) (by omega) (by omega) (by omega) | exact wrap2i (by omega) (by omega) | exact fits_u32 (by omega) (by omega)))
  done
end Go.Proofs.Ytpamdmikdnoplaa