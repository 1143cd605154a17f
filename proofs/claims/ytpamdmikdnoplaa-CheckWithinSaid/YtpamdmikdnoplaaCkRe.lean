/- What cachetref06.Behind makes: the contract. -/
import Derived.Test.YtpamdmikdnoplaaCkBe
import Derived.Test.YtpamdmikdnoplaaCkB18a
import Derived.Test.YtpamdmikdnoplaaCkB18b
namespace Go.Proofs.Ytpamdmikdnoplaa
open Go.Sx Go.RowKit Go.Ck
set_option linter.unusedVariables false
set_option maxRecDepth 100000
def wayV (r : Int → Rng) (B : Beh) : Value := .agg (knownV r B.next ++ (knownV r B.jumped ++ [Value.int .i64 B.err])).toArray
theorem known_len (r : Int → Rng) (o : Option Puts) : (knownV r o).length = 31 := by cases o <;> rfl
theorem C18_ok (ρ : Env) (hI : ρ.I = CI) (f : FuncId) (c : Ctr) (h : C18 f = some c) (w0 : World) (own : Own) : CtrOk Try.prog ρ w0 own f c := by
  unfold C18 at h
  split at h
  · simp only [Option.some.injEq] at h; subst h; exact PC.ok ones53_ok hI w0 own
  · simp only [Option.some.injEq] at h; subst h; exact PC.ok power54_ok hI w0 own
  · cases h
theorem leaf18_sound {ρ : Env} {k : Int} (hV : ∀ n : Nat, ρ.i (100 + n) = codeB (behE ρ k) n) : ∀ p s es, leaf18 p s = some es → ρ.Path p → (∀ e ∈ es, e.denB ρ = true) → ∀ β v, s.rel ρ β v → v = wayV (rng ρ) (behE ρ k) := by
  intro p s es h hp he β v hv
  unfold leaf18 at h
  split at h
  · rename_i l
    split at h
    · rename_i x y e hx hy hz
      simp only [Option.some.injEq] at h; subst h
      simp only [SV.rel] at hv
      obtain ⟨vs, hl, rfl⟩ := hv
      have hl := relS_toL hl
      have ha := hl.take 31
      have hb := (hl.drop 31).take 31
      have hc := hl.drop 62
      rw [hz] at hc
      obtain ⟨v3, r3, e3, rfl, hn⟩ := hc
      have hn' : r3 = [] := hn
      subst hn'
      have e0 := he _ (List.mem_cons_self ..)
      rw [E.denB_mkEq, beq_iff_eq] at e0
      have k1 := eqKnown_sound hp hx (fun e h' => he e (List.mem_cons_of_mem _ (List.mem_append_left _ h'))) ha (spec := (behE ρ k).next) fun j hj => by
        have := hV (1 + j)
        rw [show 100 + (1 + j) = 101 + j by omega] at this
        rw [this]; unfold codeB; rw [if_neg (by omega), if_pos (by omega)]; congr 1; omega
      have k2 := eqKnown_sound hp hy (fun e h' => he e (List.mem_cons_of_mem _ (List.mem_append_right _ h'))) hb (spec := (behE ρ k).jumped) fun j hj => by
        have := hV (30 + j)
        rw [show 100 + (30 + j) = 130 + j by omega] at this
        rw [this]; unfold codeB; rw [if_neg (by omega), if_neg (by omega)]; congr 1; omega
      have h0 := hV 0
      simp only [Nat.add_zero, codeB, if_true] at h0
      unfold wayV
      congr 2
      have d : vs = vs.take 31 ++ ((vs.drop 31).take 31 ++ vs.drop 62) := by
        have e1 : (vs.drop 31).drop 31 = vs.drop 62 := by rw [List.drop_drop]
        rw [← e1, List.take_append_drop, List.take_append_drop]
      rw [d, k1, k2, e3, e0]
      simp only [E.den, h0]
    · cases h
  · cases h
theorem beh18_calls {ρ : Env} (hI : ρ.I = CI) (hpre : ∀ e ∈ preM, e.denB ρ = true) {vals : Array Value} (hrel : RelL ρ [] (symA 0 behShs) vals.toList) (W : World) :
    Calls Try.prog 18 vals W fun e W' => ∃ v, v = wayV (rng ρ) (behE ρ (ρ.i 0)) ∧ e = .returned v ∧ Fr W noOwn W' := by
  have hmem : ∀ e, e ∈ rngPre 0 behK → e ∈ preM := fun e h => by unfold preM; simp [h]
  have hM : MayP (ρ.i 0) (ρ.i 1) (ρ.i 2) (ρ.i 3) (ρ.i 4) := (den_may ρ hI (.var 0) (.var 1) (.var 2) (.var 3) (.var 4)).1 (hpre mayS (by simp [preM]))
  have hR := right_sel hI (hpre rightE (by simp [preM]))
  have rg := rg_sel fun e h => hpre e (hmem e h)
  have g : ∀ j k, behK[j]? = some k → k.rg1.1 ≤ ρ.i j ∧ ρ.i j ≤ k.rg1.2 := fun j k hk => by simpa using rngPre_get (fun e h => hpre e (hmem e h)) hk
  have h3 : -9223372036854775808 ≤ ρ.i 3 ∧ ρ.i 3 ≤ 9223372036854775807 := g 3 (some .i64) rfl
  have h4 : 0 ≤ ρ.i 4 ∧ ρ.i 4 ≤ 4294967295 := g 4 (some .u32) rfl
  have hc1 := hpre (.le (.lit 0) (.var 5)) (by simp [preM])
  have hc2 := hpre (.le (.var 5) (.lit 256)) (by simp [preM])
  simp only [E.denB, E.den] at hc1 hc2
  have hctx : 0 ≤ ρ.i 5 ∧ ρ.i 5 ≤ 256 := ⟨of_decide_eq_true hc1, of_decide_eq_true hc2⟩
  generalize hk : ρ.i 0 = k at *
  have same : ∀ j, j < 100 → (withB ρ (behE ρ k)).i j = ρ.i j ∧ (withB ρ (behE ρ k)).b j = ρ.b j := fun j hj => ⟨withB_i ρ _ hj, rfl⟩
  have H : BehH (withB ρ (behE ρ k)) k := ⟨hI, h3, h4, hM, hR, rg, fun n => by
    rw [withB_behE]; unfold withB; simp only; rw [if_pos (by omega)]; congr 1; omega⟩
  have hrel2 := behA_rel hk (behE ρ k) hrel
  have hmayk : (mayE k).denB ρ = true := (den_may ρ hI (.lit k) (.var 1) (.var 2) (.var 3) (.var 4)).2 hM
  have hpre2 : ∀ e ∈ pre18 k, e.denB (withB ρ (behE ρ k)) = true := fun e he => by
    have hb : below 100 e = true := by
      have : (pre18 k).all (below 100) = true := rfl
      exact List.all_eq_true.1 this e he
    rw [(below_den (ρ := ρ) (ρ' := withB ρ (behE ρ k)) rfl same e hb).2.1]
    unfold pre18 at he
    rcases List.mem_cons.1 he with rfl | he
    · exact hmayk
    · exact hpre e (by unfold preM; simp only [List.mem_cons] at he ⊢; rcases he with h | h | h <;> simp [h])
  have hf : (withB ρ (behE ρ k)).Fits (gamR behK) := fits_pre hpre2 fun e he => by unfold pre18; simp [he]
  have post := leaf18_sound H.hV
  rw [withB_rng, withB_behE] at post
  have go : ∀ {T : NT}, finT (gamR behK) (chkL leaf18 (evFn Try.prog C18 20 30 18 (behA k) [] (pre18 k))) = T → T.Holds (withB ρ (behE ρ k)) → Calls Try.prog 18 vals W fun e W' => ∃ v, v = wayV (rng ρ) (behE ρ k) ∧ e = .returned v ∧ Fr W noOwn W' :=
    fun hev hT => tree_calls (I := CI) (ρ := withB ρ (behE ρ k)) C18_ok hev hI hpre2 hf hT hrel2 W _ post
  have hk1 := hM.1
  have hk2 := hM.2.1
  clear hpre hpre2 hrel hrel2 hmem hmayk post hM g same hR rg h3 h4 hc1 hc2
  rcases ops k hk1 hk2 with rfl | rfl | rfl | rfl | rfl | rfl | rfl | rfl | rfl | rfl | rfl | rfl | rfl | rfl | rfl | rfl | rfl | rfl | rfl | rfl | rfl | rfl | rfl | rfl
  · exact go b18_1_ev (b18_1_holds _ H trivial)
  · exact go b18_2_ev (b18_2_holds _ H trivial)
  · exact go b18_3_ev (b18_3_holds _ H trivial)
  · exact go b18_4_ev (b18_4_holds _ H trivial)
  · exact go b18_5_ev (b18_5_holds _ H trivial)
  · exact go b18_6_ev (b18_6_holds _ H trivial)
  · exact go b18_7_ev (b18_7_holds _ H trivial)
  · exact go b18_8_ev (b18_8_holds _ H trivial)
  · exact go b18_9_ev (b18_9_holds _ H trivial)
  · exact go b18_10_ev (b18_10_holds _ H trivial)
  · exact go b18_11_ev (b18_11_holds _ H trivial)
  · exact go b18_12_ev (b18_12_holds _ H trivial)
  · exact go b18_13_ev (b18_13_holds _ H trivial)
  · exact go b18_14_ev (b18_14_holds _ H trivial)
  · exact go b18_15_ev (b18_15_holds _ H trivial)
  · exact go b18_16_ev (b18_16_holds _ H trivial)
  · exact go b18_17_ev (b18_17_holds _ H trivial)
  · exact go b18_18_ev (b18_18_holds _ H trivial)
  · exact go b18_19_ev (b18_19_holds _ H trivial)
  · exact go b18_20_ev (b18_20_holds _ H trivial)
  · exact go b18_21_ev (b18_21_holds _ H trivial)
  · exact go b18_22_ev (b18_22_holds _ H trivial)
  · exact go b18_23_ev (b18_23_holds _ H trivial)
  · exact go b18_24_ev (b18_24_holds _ H trivial)
theorem beh18_ok : refC.Ok Try.prog CI 18 := fun ρ hI hpre vals hrel W => by
  refine (beh18_calls hI hpre hrel W).mono fun e W' he => ?_
  obtain ⟨v, rfl, rfl, hF⟩ := he
  obtain ⟨h1, h2, h3⟩ := beh_cells hI []
  exact ⟨_, ⟨_, relS_ofL (h1.append (h2.append ⟨_, [], rfl, by simp only [SV.rel, h3], rfl⟩)), rfl⟩, rfl, hF⟩
end Go.Proofs.Ytpamdmikdnoplaa
