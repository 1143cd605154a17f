/- What 'Behind' makes: the contract. -/
import Derived.Test.YtpamdmikdnoplaaCkPc3
import Derived.Test.YtpamdmikdnoplaaCkReg
import Derived.Test.YtpamdmikdnoplaaCkB14a
import Derived.Test.YtpamdmikdnoplaaCkB14b
namespace Go.Proofs.Ytpamdmikdnoplaa
open Go.Sx Go.RowKit Go.Ck
set_option linter.unusedVariables false
set_option maxRecDepth 100000
/-- Variables below a number alone. -/
def below (n : Nat) : E → Bool
  | .lit _ => true | .var i => decide (i < n) | .bvar i => decide (i < n)
  | .bin _ _ a b => below n a && below n b | .wrap _ a => below n a
  | .lt a b => below n a && below n b | .le a b => below n a && below n b | .eq a b => below n a && below n b | .beq a b => below n a && below n b
  | .not a => below n a | .ite c a b => below n c && below n a && below n b | .app _ a => below n a | .nil => true | .cons a b => below n a && below n b
theorem appI_env {ρ ρ' : Env} (hI : ρ'.I = ρ.I) (f : Nat) (l : List Int) : appI ρ' f l = appI ρ f l := by unfold appI; rw [hI]
theorem below_den {ρ ρ' : Env} {n : Nat} (hI : ρ'.I = ρ.I) (h : ∀ j, j < n → ρ'.i j = ρ.i j ∧ ρ'.b j = ρ.b j) (e : E) : below n e = true → e.den ρ' = e.den ρ ∧ e.denB ρ' = e.denB ρ ∧ e.denL ρ' = e.denL ρ := by
  induction e with
  | lit n => intro _; exact ⟨rfl, rfl, rfl⟩
  | var i => intro hb; exact ⟨(h i (of_decide_eq_true hb)).1, rfl, rfl⟩
  | bvar i => intro hb; have := (h i (of_decide_eq_true hb)).2; exact ⟨by simp only [E.den, this], this, rfl⟩
  | bin op k a b iha ihb => intro hb; simp only [below, Bool.and_eq_true] at hb; exact ⟨by simp only [E.den, (iha hb.1).1, (ihb hb.2).1], rfl, rfl⟩
  | wrap k a ih => intro hb; exact ⟨by simp only [E.den, (ih hb).1], rfl, rfl⟩
  | lt a b iha ihb => intro hb; simp only [below, Bool.and_eq_true] at hb; exact ⟨rfl, by simp only [E.denB, (iha hb.1).1, (ihb hb.2).1], rfl⟩
  | le a b iha ihb => intro hb; simp only [below, Bool.and_eq_true] at hb; exact ⟨rfl, by simp only [E.denB, (iha hb.1).1, (ihb hb.2).1], rfl⟩
  | eq a b iha ihb => intro hb; simp only [below, Bool.and_eq_true] at hb; exact ⟨rfl, by simp only [E.denB, (iha hb.1).1, (ihb hb.2).1], rfl⟩
  | beq a b iha ihb => intro hb; simp only [below, Bool.and_eq_true] at hb; exact ⟨rfl, by simp only [E.denB, (iha hb.1).2.1, (ihb hb.2).2.1], rfl⟩
  | not a ih => intro hb; exact ⟨rfl, by simp only [E.denB, (ih hb).2.1], rfl⟩
  | ite c a b ihc iha ihb =>
    intro hb; simp only [below, Bool.and_eq_true] at hb
    exact ⟨by simp only [E.den, (ihc hb.1.1).2.1, (iha hb.1.2).1, (ihb hb.2).1], by simp only [E.denB, (ihc hb.1.1).2.1, (iha hb.1.2).2.1, (ihb hb.2).2.1], rfl⟩
  | app f a ih => intro hb; exact ⟨by simp only [E.den, (ih hb).2.2, appI_env hI], by simp only [E.denB, (ih hb).2.2, appI_env hI], rfl⟩
  | nil => intro _; exact ⟨rfl, rfl, rfl⟩
  | cons a b iha ihb => intro hb; simp only [below, Bool.and_eq_true] at hb; exact ⟨rfl, rfl, by simp only [E.denL, (iha hb.1).1, (ihb hb.2).2.2]⟩
theorem symL_env {ρ ρ' : Env} {β : List Nat} : ∀ {ks : List Kd} {n : Nat} {vs : List Value}, (∀ j, j < n + ks.length → ρ'.i j = ρ.i j ∧ ρ'.b j = ρ.b j) → RelL ρ β (symL n ks) vs → RelL ρ' β (symL n ks) vs
  | [], _, _, _, h => h
  | k :: ks, n, _, he, h => by
    obtain ⟨v, r, rfl, h1, h2⟩ := h
    have hn := he n (by simp)
    refine ⟨v, r, rfl, ?_, symL_env (n := n + 1) (fun j hj => he j (by simp at hj ⊢; omega)) h2⟩
    cases k with
    | none => simp only [symC, SV.rel, E.denB] at h1 ⊢; rw [hn.2]; exact h1
    | some k => simp only [symC, SV.rel, E.den] at h1 ⊢; rw [hn.1]; exact h1
theorem C14_ok (ρ : Env) (hI : ρ.I = CI) (f : FuncId) (c : Ctr) (h : C14 f = some c) (w0 : World) (own : Own) : CtrOk Try.prog ρ w0 own f c := by
  unfold C14 at h
  split at h
  · simp only [Option.some.injEq] at h; subst h; exact PC.ok may43_ok hI w0 own
  · simp only [Option.some.injEq] at h; subst h; exact PC.ok right29_ok hI w0 own
  · simp only [Option.some.injEq] at h; subst h; exact PC.ok ones79_ok hI w0 own
  · cases h
/-- An environment, and numbers for what is made. -/
def withB (ρ : Env) (B : Beh) : Env := { ρ with i := fun j => if 100 ≤ j then codeB B (j - 100) else ρ.i j }
theorem withB_i (ρ : Env) (B : Beh) {j : Nat} (h : j < 100) : (withB ρ B).i j = ρ.i j := by unfold withB; simp only; rw [if_neg (by omega)]
theorem withB_rng (ρ : Env) (B : Beh) : rng (withB ρ B) = rng ρ := rfl
theorem withB_behE (ρ : Env) (B : Beh) (k : Int) : behE (withB ρ B) k = behE ρ k := rfl
theorem right_sel {ρ : Env} (hI : ρ.I = CI) (h : rightE.denB ρ = true) (x : Int) : rL ρ x ≤ rG ρ x := by
  have hr := (den_right _).1 (show ((clampF 301 (CI 301 ((nameL 7 regsK).denL ρ))) != 0) = true by
    have : rightE.denB ρ = (clampF 301 (CI 301 ((nameL 7 regsK).denL ρ)) != 0) := by simp only [rightE, E.denB, appI, hI]
    rw [← this]; exact h)
  simp only [regsK, rngK, List.replicate, List.flatten, List.append, nameL, E.denL, E.den, rightL] at hr
  obtain ⟨a0, a1, a2, a3, a4, a5, a6, a7, a8, a9, _⟩ := hr
  simp only [rL, rG, selI]
  rcases hx : x.toNat with _ | _ | _ | _ | _ | _ | _ | _ | _ | _ | n
  · exact a0.1
  · exact a1.1
  · exact a2.1
  · exact a3.1
  · exact a4.1
  · exact a5.1
  · exact a6.1
  · exact a7.1
  · exact a8.1
  · exact a9.1
  · simp
theorem rg_sel {ρ : Env} (h : ∀ e ∈ rngPre 0 behK, e.denB ρ = true) (x : Int) : 0 ≤ rL ρ x ∧ rG ρ x ≤ 4294967295 := by
  have g : ∀ j k, behK[j]? = some k → k.rg1.1 ≤ ρ.i j ∧ ρ.i j ≤ k.rg1.2 := fun j k hk => by simpa using rngPre_get h hk
  have u : ∀ j, behK[j]? = some (some .u32) → 0 ≤ ρ.i j ∧ ρ.i j ≤ 4294967295 := fun j hk => g j _ hk
  simp only [rL, rG, selI]
  rcases hx : x.toNat with _ | _ | _ | _ | _ | _ | _ | _ | _ | _ | n
  · exact ⟨(u 8 rfl).1, (u 9 rfl).2⟩
  · exact ⟨(u 11 rfl).1, (u 12 rfl).2⟩
  · exact ⟨(u 14 rfl).1, (u 15 rfl).2⟩
  · exact ⟨(u 17 rfl).1, (u 18 rfl).2⟩
  · exact ⟨(u 20 rfl).1, (u 21 rfl).2⟩
  · exact ⟨(u 23 rfl).1, (u 24 rfl).2⟩
  · exact ⟨(u 26 rfl).1, (u 27 rfl).2⟩
  · exact ⟨(u 29 rfl).1, (u 30 rfl).2⟩
  · exact ⟨(u 32 rfl).1, (u 33 rfl).2⟩
  · exact ⟨(u 35 rfl).1, (u 36 rfl).2⟩
  · simp
theorem behA_rel {ρ : Env} {k : Int} (hk : ρ.i 0 = k) (B : Beh) {vals : List Value} (h : RelL ρ [] (symA 0 behShs) vals) : RelL (withB ρ B) [] (behA k) vals := by
  obtain ⟨v0, r0, rfl, h0, v1, r1, rfl, h1, v2, r2, rfl, h2, h3⟩ := h
  simp only [Sh.sym, SV.rel] at h0 h2
  obtain ⟨vs, g0, rfl⟩ := h0
  obtain ⟨ws, g2, rfl⟩ := h2
  have same : ∀ j, j < 100 → (withB ρ B).i j = ρ.i j ∧ (withB ρ B).b j = ρ.b j := fun j hj => ⟨withB_i ρ B hj, rfl⟩
  have l0 := relS_toL g0
  rw [SV.toL_ofL] at l0
  obtain ⟨x, q, rfl, hx, hq⟩ := l0
  have l2 := relS_toL g2
  rw [SV.toL_ofL] at l2
  refine ⟨_, _, rfl, ⟨x :: q, relS_ofL ⟨x, q, rfl, ?_, symL_env (fun j hj => same j (by simp at hj; omega)) hq⟩, rfl⟩, v1, _, rfl, ?_, _, _, rfl, ⟨ws, relS_ofL (symL_env (fun j hj => same j (by simp [knownK, regsK, rngK] at hj; omega)) l2), rfl⟩, h3⟩
  · simp only [symC, SV.rel, E.den] at hx ⊢; rw [← hk]; exact hx
  · simp only [Sh.sym, symC, SV.rel, E.den] at h1 ⊢; exact h1
theorem beh14_calls {ρ : Env} (hI : ρ.I = CI) (hpre : ∀ e ∈ preM, e.denB ρ = true) {vals : Array Value} (hrel : RelL ρ [] (symA 0 behShs) vals.toList) (W : World) :
    Calls Try.prog 14 vals W fun e W' => ∃ v, v = Value.tuple #[.agg (knownV (rng ρ) (behE ρ (ρ.i 0)).next).toArray, .agg (knownV (rng ρ) (behE ρ (ρ.i 0)).jumped).toArray, .int .i64 (behE ρ (ρ.i 0)).err] ∧ e = .returned v ∧ Fr W noOwn W' := by
  have hmem : ∀ e, e ∈ rngPre 0 behK → e ∈ preM := fun e h => by unfold preM; simp [h]
  have hM : MayP (ρ.i 0) (ρ.i 1) (ρ.i 2) (ρ.i 3) (ρ.i 4) := (den_may ρ hI (.var 0) (.var 1) (.var 2) (.var 3) (.var 4)).1 (hpre mayS (by simp [preM]))
  have hR := right_sel hI (hpre rightE (by simp [preM]))
  have rg := rg_sel fun e h => hpre e (hmem e h)
  have g : ∀ j k, behK[j]? = some k → k.rg1.1 ≤ ρ.i j ∧ ρ.i j ≤ k.rg1.2 := fun j k hk => by simpa using rngPre_get (fun e h => hpre e (hmem e h)) hk
  have h3 : -9223372036854775808 ≤ ρ.i 3 ∧ ρ.i 3 ≤ 9223372036854775807 := g 3 (some .i64) rfl
  have h4 : 0 ≤ ρ.i 4 ∧ ρ.i 4 ≤ 4294967295 := g 4 (some .u32) rfl
  have hc1 := hpre (.le (.lit 0) (.var 5)) (by simp [preM])
  have hc2 := hpre (.le (.var 5) (.lit 256)) (by simp [preM])
  simp only [E.denB, E.den] at hc1 hc2
  have hctx : 0 ≤ ρ.i 5 ∧ ρ.i 5 ≤ 256 := ⟨of_decide_eq_true hc1, of_decide_eq_true hc2⟩
  generalize hk : ρ.i 0 = k at *
  have same : ∀ j, j < 100 → (withB ρ (behE ρ k)).i j = ρ.i j ∧ (withB ρ (behE ρ k)).b j = ρ.b j := fun j hj => ⟨withB_i ρ _ hj, rfl⟩
  have H : BehH (withB ρ (behE ρ k)) k := ⟨hI, h3, h4, hM, hR, rg, fun n => by
    rw [withB_behE]; unfold withB; simp only; rw [if_pos (by omega)]; congr 1; omega⟩
  have hrel2 := behA_rel hk (behE ρ k) hrel
  have hmayk : (mayE k).denB ρ = true := (den_may ρ hI (.lit k) (.var 1) (.var 2) (.var 3) (.var 4)).2 hM
  have hpre2 : ∀ e ∈ pre14 k, e.denB (withB ρ (behE ρ k)) = true := fun e he => by
    have hb : below 100 e = true := by
      have : (pre14 k).all (below 100) = true := rfl
      exact List.all_eq_true.1 this e he
    rw [(below_den (ρ := ρ) (ρ' := withB ρ (behE ρ k)) rfl same e hb).2.1]
    unfold pre14 at he
    rcases List.mem_cons.1 he with rfl | he
    · exact hmayk
    · exact hpre e (by unfold preM; exact List.mem_cons_of_mem _ he)
  have hf : (withB ρ (behE ρ k)).Fits (gamR behK) := fits_pre hpre2 fun e he => by unfold pre14; simp [he]
  have post := leaf14_sound H.hV
  rw [withB_rng, withB_behE] at post
  have go : ∀ {T : NT}, finT (gamR behK) (chkL leaf14 (evFn Try.prog C14 20 30 14 (behA k) [] (pre14 k))) = T → T.Holds (withB ρ (behE ρ k)) → Calls Try.prog 14 vals W fun e W' => ∃ v, v = Value.tuple #[.agg (knownV (rng ρ) (behE ρ k).next).toArray, .agg (knownV (rng ρ) (behE ρ k).jumped).toArray, .int .i64 (behE ρ k).err] ∧ e = .returned v ∧ Fr W noOwn W' :=
    fun hev hT => tree_calls (I := CI) (ρ := withB ρ (behE ρ k)) C14_ok hev hI hpre2 hf hT hrel2 W _ post
  have hk1 := hM.1
  have hk2 := hM.2.1
  clear hpre hpre2 hrel hrel2 hmem hmayk post hM g same hR rg h3 h4 hc1 hc2
  rcases ops k hk1 hk2 with rfl | rfl | rfl | rfl | rfl | rfl | rfl | rfl | rfl | rfl | rfl | rfl | rfl | rfl | rfl | rfl | rfl | rfl | rfl | rfl | rfl | rfl | rfl | rfl
  · exact go b14_1_ev (b14_1_holds _ H hctx)
  · exact go b14_2_ev (b14_2_holds _ H hctx)
  · exact go b14_3_ev (b14_3_holds _ H hctx)
  · exact go b14_4_ev (b14_4_holds _ H hctx)
  · exact go b14_5_ev (b14_5_holds _ H hctx)
  · exact go b14_6_ev (b14_6_holds _ H hctx)
  · exact go b14_7_ev (b14_7_holds _ H hctx)
  · exact go b14_8_ev (b14_8_holds _ H hctx)
  · exact go b14_9_ev (b14_9_holds _ H hctx)
  · exact go b14_10_ev (b14_10_holds _ H hctx)
  · exact go b14_11_ev (b14_11_holds _ H hctx)
  · exact go b14_12_ev (b14_12_holds _ H hctx)
  · exact go b14_13_ev (b14_13_holds _ H hctx)
  · exact go b14_14_ev (b14_14_holds _ H hctx)
  · exact go b14_15_ev (b14_15_holds _ H hctx)
  · exact go b14_16_ev (b14_16_holds _ H hctx)
  · exact go b14_17_ev (b14_17_holds _ H hctx)
  · exact go b14_18_ev (b14_18_holds _ H hctx)
  · exact go b14_19_ev (b14_19_holds _ H hctx)
  · exact go b14_20_ev (b14_20_holds _ H hctx)
  · exact go b14_21_ev (b14_21_holds _ H hctx)
  · exact go b14_22_ev (b14_22_holds _ H hctx)
  · exact go b14_23_ev (b14_23_holds _ H hctx)
  · exact go b14_24_ev (b14_24_holds _ H hctx)
/- As a contract: its cells as functions of the arguments. -/
theorem I0_more (x : Int → Int) (y : Nat → List Int → Int) {f : Nat} (h0 : 100 ≤ f) (h1 : f < 200) (l : List Int) : I0 x y f l = y f l := by
  unfold I0; split <;> first | omega | rfl
theorem app_beh {ρ : Env} (hI : ρ.I = CI) {f : Nat} (h0 : 100 ≤ f) (h1 : f < 200) (l : List Int) : appI ρ f l = behI f l := by
  have e : appI ρ f l = clampF f (CI f l) := by
    unfold appI; split
    · omega
    · rw [hI]
  rw [e]
  unfold clampF CI
  rw [if_pos h1, I0_more _ _ h0 h1]
theorem dec_rng (ρ : Env) : decR (argE.denL ρ) = rng ρ := by
  funext x
  simp only [decR, rng, rS, rL, rG, selI]
  rcases hx : x.toNat with _ | _ | _ | _ | _ | _ | _ | _ | _ | _ | n
  · rfl
  · rfl
  · rfl
  · rfl
  · rfl
  · rfl
  · rfl
  · rfl
  · rfl
  · rfl
  · have e : ∀ m, 36 ≤ m → (argE.denL ρ).getD m 0 = 0 := fun m hm => by
      rw [List.getD_eq_getElem?_getD, List.getElem?_eq_none (show (argE.denL ρ).length ≤ m from hm)]; rfl
    rw [e _ (by omega), e _ (by omega), e _ (by omega)]
    rfl
theorem beh_arg (ρ : Env) : behL (argE.denL ρ) = behE ρ (ρ.i 0) := by
  unfold behL
  rw [dec_rng]
  rfl
theorem row_ok {ρ : Env} {β : List Nat} {s l g : Nat} {x : Rng} (h1 : (E.app s argE).denB ρ = decide (x.s ≠ 0)) (h2 : (E.app l argE).den ρ = x.l) (h3 : (E.app g argE).den ρ = x.g) : RelL ρ β (rowE s l g) (regV x) :=
  ⟨_, _, rfl, by simp only [SV.rel, h1], _, _, rfl, by simp only [SV.rel, h2], _, _, rfl, by simp only [SV.rel, h3], rfl⟩
theorem regs_known (r : Int → Rng) (o : Option Puts) : knownV r o = .bool o.isSome :: regsV (regsO r o) := by cases o <;> rfl
theorem cells_ok {ρ : Env} {β : List Nat} {c s l g : Nat} {r : Int → Rng} {o : Option Puts} (hc : (E.app c argE).denB ρ = o.isSome)
    (h : ∀ j : Nat, j < 10 → (E.app (s + j) argE).denB ρ = decide ((regsO r o j).s ≠ 0) ∧ (E.app (l + j) argE).den ρ = (regsO r o j).l ∧ (E.app (g + j) argE).den ρ = (regsO r o j).g) : RelL ρ β (knownE c s l g) (knownV r o) := by
  rw [regs_known]
  have row : ∀ j : Nat, j < 10 → RelL ρ β (rowE (s + j) (l + j) (g + j)) (regV (regsO r o j)) := fun j hj => row_ok (h j hj).1 (h j hj).2.1 (h j hj).2.2
  refine ⟨_, _, rfl, by simp only [SV.rel, hc], ?_⟩
  exact (row 0 (by omega)).append ((row 1 (by omega)).append ((row 2 (by omega)).append ((row 3 (by omega)).append ((row 4 (by omega)).append ((row 5 (by omega)).append ((row 6 (by omega)).append ((row 7 (by omega)).append ((row 8 (by omega)).append (row 9 (by omega))))))))))
theorem beh_cells {ρ : Env} (hI : ρ.I = CI) (β : List Nat) : RelL ρ β (knownE 160 140 100 110) (knownV (rng ρ) (behE ρ (ρ.i 0)).next) ∧ RelL ρ β (knownE 161 150 120 130) (knownV (rng ρ) (behE ρ (ρ.i 0)).jumped) ∧ (E.app 162 argE).den ρ = (behE ρ (ρ.i 0)).err := by
  have a : ∀ f, 100 ≤ f → f < 200 → (E.app f argE).den ρ = behI f (argE.denL ρ) := fun f h0 h1 => app_beh hI h0 h1 _
  have b : ∀ f, 100 ≤ f → f < 200 → (E.app f argE).denB ρ = (behI f (argE.denL ρ) != 0) := fun f h0 h1 => by
    have : (E.app f argE).denB ρ = (appI ρ f (argE.denL ρ) != 0) := rfl
    rw [this, app_beh hI h0 h1]
  refine ⟨cells_ok ?_ fun j hj => ⟨?_, ?_, ?_⟩, cells_ok ?_ fun j hj => ⟨?_, ?_, ?_⟩, ?_⟩
  · rw [b 160 (by omega) (by omega)]
    have : behI 160 (argE.denL ρ) = if (behE ρ (ρ.i 0)).next.isSome then 1 else 0 := by unfold behI; simp [beh_arg]
    rw [this]; cases (behE ρ (ρ.i 0)).next.isSome <;> rfl
  · rw [b _ (by omega) (by omega)]
    have : behI (140 + j) (argE.denL ρ) = (regsO (rng ρ) (behE ρ (ρ.i 0)).next j).s := by
      unfold behI
      rw [if_neg (by omega), if_neg (by omega), if_neg (by omega), if_neg (by omega), if_neg (by omega), if_pos (by omega), dec_rng, beh_arg, show 140 + j - 140 = j by omega]
    rw [this]; rw [Bool.eq_iff_iff]; simp
  · rw [a _ (by omega) (by omega)]
    unfold behI
    rw [if_neg (by omega), if_pos (by omega), dec_rng, beh_arg, show 100 + j - 100 = j by omega]
  · rw [a _ (by omega) (by omega)]
    unfold behI
    rw [if_neg (by omega), if_neg (by omega), if_pos (by omega), dec_rng, beh_arg, show 110 + j - 110 = j by omega]
  · rw [b 161 (by omega) (by omega)]
    have : behI 161 (argE.denL ρ) = if (behE ρ (ρ.i 0)).jumped.isSome then 1 else 0 := by unfold behI; simp [beh_arg]
    rw [this]; cases (behE ρ (ρ.i 0)).jumped.isSome <;> rfl
  · rw [b _ (by omega) (by omega)]
    have : behI (150 + j) (argE.denL ρ) = (regsO (rng ρ) (behE ρ (ρ.i 0)).jumped j).s := by
      unfold behI
      rw [if_neg (by omega), if_neg (by omega), if_neg (by omega), if_neg (by omega), if_neg (by omega), if_neg (by omega), if_pos (by omega), dec_rng, beh_arg, show 150 + j - 150 = j by omega]
    rw [this]; rw [Bool.eq_iff_iff]; simp
  · rw [a _ (by omega) (by omega)]
    unfold behI
    rw [if_neg (by omega), if_neg (by omega), if_neg (by omega), if_pos (by omega), dec_rng, beh_arg, show 120 + j - 120 = j by omega]
  · rw [a _ (by omega) (by omega)]
    unfold behI
    rw [if_neg (by omega), if_neg (by omega), if_neg (by omega), if_neg (by omega), if_pos (by omega), dec_rng, beh_arg, show 130 + j - 130 = j by omega]
  · rw [a _ (by omega) (by omega)]
    unfold behI
    simp [beh_arg]
theorem beh14_ok : behC.Ok Try.prog CI 14 := fun ρ hI hpre vals hrel W => by
  refine (beh14_calls hI hpre hrel W).mono fun e W' he => ?_
  obtain ⟨v, rfl, rfl, hF⟩ := he
  obtain ⟨h1, h2, h3⟩ := beh_cells hI []
  exact ⟨_, ⟨_, relS_ofL ⟨_, _, rfl, ⟨_, relS_ofL h1, rfl⟩, _, _, rfl, ⟨_, relS_ofL h2, rfl⟩, _, _, rfl, by simp only [SV.rel, h3], rfl⟩, rfl⟩, rfl, hF⟩
end Go.Proofs.Ytpamdmikdnoplaa
