/- Of less that is known less is made: a plain law. -/
import Derived.Test.YtpamdmikdnoplaaCkSpec
namespace Go.Ck
/-- Within: whatever the second one tells the first one tells, and as closely. -/
def Wi (x y : Rng) : Prop := y.s ≠ 0 → x.s ≠ 0 ∧ y.l ≤ x.l ∧ x.g ≤ y.g
structure Cut (x y : Rng) : Prop where
  s : x.s = y.s
  w : y.l ≤ x.l ∧ x.g ≤ y.g
  r : x.l ≤ x.g
  lo : 0 ≤ y.l
  hi : y.g ≤ 4294967295
def WiO (r2 r1 : Int → Rng) : Option Puts → Option Puts → Prop
  | none, _ => True
  | some _, none => False
  | some p2, some p1 => ∀ j, 0 ≤ j → j < 10 → Wi (putsF r2 p2 j) (putsF r1 p1 j)
theorem wi_cut {x y : Rng} (h : Cut x y) : Wi x y := fun hs => ⟨by rw [h.s]; exact hs, h.w⟩
theorem wi_upd {r2 r1 : Int → Rng} {d : Int} {x y : Rng} {j : Int} (h : Wi x y) (hr : Wi (r2 j) (r1 j)) : Wi (upd r2 (d, x) j) (upd r1 (d, y) j) := by
  unfold upd
  simp only
  split
  · exact h
  · exact hr
theorem wi_mk {a b l1 g1 l2 g2 : Int} (ha : a ≠ 0) (h1 : l1 ≤ l2) (h2 : g2 ≤ g1) : Wi ⟨a, l2, g2⟩ ⟨b, l1, g1⟩ := fun _ => ⟨ha, h1, h2⟩
theorem wi_same (x : Rng) : Wi x x := fun h => ⟨h, Int.le_refl _, Int.le_refl _⟩
theorem wi_fit {l1 g1 l2 g2 : Int} (h0 : 0 ≤ l2) (h1 : l1 ≤ l2) (h2 : g2 ≤ g1) : Wi (fit l2 g2) (fit l1 g1) := by
  unfold fit
  split <;> split
  · exact wi_same _
  · omega
  · exact wi_mk (by decide) h0 (by omega)
  · exact wi_mk (by decide) h1 h2
theorem mn_mono {a b c d : Int} (h1 : a ≤ c) (h2 : b ≤ d) : mn a b ≤ mn c d := by unfold mn; split <;> split <;> omega
theorem mx_mono {a b c d : Int} (h1 : a ≤ c) (h2 : b ≤ d) : mx a b ≤ mx c d := by unfold mx; split <;> split <;> omega
theorem onesN_ge : ∀ (f : Nat) (m n : Int), 0 ≤ m → m ≤ onesN f m n
  | 0, m, n, _ => Int.le_refl _
  | f + 1, m, n, hm => by
    unfold onesN
    split
    · have := onesN_ge f (2 * m + 1) n (by omega); omega
    · exact Int.le_refl _
theorem onesN_mono : ∀ (f : Nat) (m a b : Int), 0 ≤ m → a ≤ b → onesN f m a ≤ onesN f m b
  | 0, _, _, _, _, _ => Int.le_refl _
  | f + 1, m, a, b, hm, h => by
    unfold onesN
    split
    · rw [if_pos (by omega)]; exact onesN_mono f _ a b (by omega) h
    · split
      · have := onesN_ge f (2 * m + 1) b (by omega); omega
      · exact Int.le_refl _
theorem ones_mono {a b : Int} (h : a ≤ b) : ones a ≤ ones b := onesN_mono 33 0 a b (by decide) h
theorem div_mono {a b c d : Int} (h0 : 0 ≤ a) (h1 : a ≤ b) (h2 : 0 < d) (h3 : d ≤ c) : a / c ≤ b / d := by
  have hc : 0 < c := by omega
  apply (Int.le_ediv_iff_mul_le h2).2
  have q0 : 0 ≤ a / c := Int.ediv_nonneg h0 (by omega)
  have q1 : a / c * c ≤ a := Int.ediv_mul_le a (by omega)
  have q2 : a / c * d ≤ a / c * c := Int.mul_le_mul_of_nonneg_left h3 q0
  omega
theorem mul_mono {a b c d : Int} (h0 : 0 ≤ a) (h1 : a ≤ b) (h2 : 0 ≤ c) (h3 : c ≤ d) : a * c ≤ b * d := Int.mul_le_mul h1 h3 h2 (by omega)
theorem pow_pos' (n : Nat) : (0 : Int) < 2 ^ n := by
  have := Nat.two_pow_pos n
  exact_mod_cast this
theorem made_mono {op : Int} (h1 : 1 ≤ op) (h15 : op ≤ 15) {d2 d1 s2 s1 : Rng} (hd : Cut d2 d1) (hs : Cut s2 s1) (h12 : op = 12 ∨ op = 13 → s2 = s1) (h14 : op = 14 ∨ op = 15 → 1 ≤ s1.l) : Wi (made op d2 s2) (made op d1 s1) := by
  obtain ⟨_, dw, dr, dlo, dhi⟩ := hd
  obtain ⟨_, sw, sr, slo, shi⟩ := hs
  have hop : op = 1 ∨ op = 2 ∨ op = 3 ∨ op = 4 ∨ op = 5 ∨ op = 6 ∨ op = 7 ∨ op = 8 ∨ op = 9 ∨ op = 10 ∨ op = 11 ∨ op = 12 ∨ op = 13 ∨ op = 14 ∨ op = 15 := by omega
  rcases hop with rfl | rfl | rfl | rfl | rfl | rfl | rfl | rfl | rfl | rfl | rfl | rfl | rfl | rfl | rfl <;> simp [made] at h12 h14 ⊢
  · exact wi_mk (by decide) sw.1 sw.2
  · exact wi_mk (by decide) sw.1 sw.2
  · exact wi_fit (by omega) (by omega) (by omega)
  · exact wi_fit (by omega) (by omega) (by omega)
  · split <;> split
    · exact wi_same _
    · omega
    · exact wi_mk (by decide) (by omega) (by omega)
    · exact wi_mk (by decide) (by omega) (by omega)
  · exact wi_fit (Int.mul_nonneg (by omega) (by omega)) (mul_mono (by omega) (by omega) (by omega) (by omega)) (mul_mono (by omega) (by omega) (by omega) (by omega))
  · exact wi_fit (Int.mul_nonneg (by omega) (by omega)) (mul_mono (by omega) (by omega) (by omega) (by omega)) (mul_mono (by omega) (by omega) (by omega) (by omega))
  · exact wi_mk (by decide) (by omega) (mn_mono (by omega) (by omega))
  · exact wi_mk (by decide) (by omega) (mn_mono (by omega) (by omega))
  · exact wi_mk (by decide) (mx_mono (by omega) (by omega)) (ones_mono (mx_mono (by omega) (by omega)))
  · exact wi_mk (by decide) (by omega) (ones_mono (mx_mono (by omega) (by omega)))
  · subst h12
    have hp := pow_pos' s2.l.toNat
    exact wi_fit (Int.mul_nonneg (by omega) (by omega)) (mul_mono (by omega) (by omega) (by omega) (by omega)) (mul_mono (by omega) (by omega) (by omega) (by omega))
  · subst h12
    have hp := pow_pos' s2.l.toNat
    exact wi_mk (by decide) (Int.ediv_le_ediv hp (by omega)) (Int.ediv_le_ediv hp (by omega))
  · exact wi_mk (by decide) (div_mono (by omega) (by omega) (by omega) (by omega)) (div_mono (by omega) (by omega) (by omega) (by omega))
  · exact wi_mk (by decide) (by omega) (mn_mono (by omega) (by omega))
theorem wiO_one {r2 r1 : Int → Rng} (hc : ∀ j, 0 ≤ j → j < 10 → Cut (r2 j) (r1 j)) {d : Int} {x y : Rng} (h : Wi x y) : WiO r2 r1 (some [(d, x)]) (some [(d, y)]) :=
  fun j h0 h1 => wi_upd h (wi_cut (hc j h0 h1))
theorem wiO_two {r2 r1 : Int → Rng} (hc : ∀ j, 0 ≤ j → j < 10 → Cut (r2 j) (r1 j)) {d e : Int} {x y u v : Rng} (h : Wi x y) (h' : Wi u v) : WiO r2 r1 (some [(d, x), (e, u)]) (some [(d, y), (e, v)]) :=
  fun j h0 h1 => wi_upd (r2 := upd r2 (d, x)) (r1 := upd r1 (d, y)) h' (wi_upd h (wi_cut (hc j h0 h1)))
theorem wiO_nil {r2 r1 : Int → Rng} (hc : ∀ j, 0 ≤ j → j < 10 → Cut (r2 j) (r1 j)) : WiO r2 r1 (some []) (some []) := fun j h0 h1 => wi_cut (hc j h0 h1)
theorem wiO_none {r2 r1 : Int → Rng} (o : Option Puts) : WiO r2 r1 none o := trivial
theorem beh_mono {op dst src off imm ctx : Int} (hM : MayP op dst src off imm) (h4 : 0 ≤ imm ∧ imm ≤ 4294967295) {r2 r1 : Int → Rng} (hc : ∀ j, 0 ≤ j → j < 10 → Cut (r2 j) (r1 j))
    (he : (beh op dst src off imm ctx (r1 dst) (r1 src) (r1 0).s).err = 0) :
    (beh op dst src off imm ctx (r2 dst) (r2 src) (r2 0).s).err = 0 ∧
    WiO r2 r1 (beh op dst src off imm ctx (r2 dst) (r2 src) (r2 0).s).next (beh op dst src off imm ctx (r1 dst) (r1 src) (r1 0).s).next ∧
    WiO r2 r1 (beh op dst src off imm ctx (r2 dst) (r2 src) (r2 0).s).jumped (beh op dst src off imm ctx (r1 dst) (r1 src) (r1 0).s).jumped := by
  have hd : 0 ≤ dst ∧ dst < 10 := by
    rcases Classical.em (useD op) with h | h
    · have := hM.2.2.1 h; omega
    · have := hM.2.2.2.1 h; omega
  have hs : 0 ≤ src ∧ src < 10 := by
    rcases Classical.em (useS op) with h | h
    · have := hM.2.2.2.2.1 h; omega
    · have := hM.2.2.2.2.2.1 h; omega
  have cd := hc dst hd.1 hd.2
  have cq := hc src hs.1 hs.2
  have c0 := (hc 0 (by decide) (by decide)).s
  have ds := cd.s
  have qs := cq.s
  have dw := cd.w
  have qw := cq.w
  have dr := cd.r
  have qr := cq.r
  have dlo := cd.lo
  have qlo := cq.lo
  have dhi := cd.hi
  have qhi := cq.hi
  unfold beh at he ⊢
  simp only at he ⊢
  have n1 : ¬ ((needs op ∧ (r1 dst).s = 0) ∨ (useS op ∧ (r1 src).s = 0) ∨ (op = 24 ∧ (r1 0).s = 0)) := fun h => by rw [if_pos h] at he; exact absurd he (by decide)
  rw [if_neg n1] at he ⊢
  have n2 : ¬ ((op = 14 ∨ op = 15) ∧ (if useM op then (⟨1, imm, imm⟩ : Rng) else r1 src).l = 0) := fun h => by rw [if_pos h] at he; exact absurd he (by decide)
  rw [if_neg n2] at he ⊢
  have n3 : ¬ ((op = 16 ∧ ¬ (0 ≤ (r1 src).l + off ∧ (r1 src).g + off < ctx)) ∨ (op = 17 ∧ ¬ (0 ≤ (r1 src).l + off ∧ (r1 src).g + off < 64)) ∨ (op = 18 ∧ ¬ (0 ≤ (r1 dst).l + off ∧ (r1 dst).g + off < 64))) := fun h => by rw [if_pos h] at he; exact absurd he (by decide)
  rw [if_neg n3] at he ⊢
  rw [if_neg (show ¬ ((needs op ∧ (r2 dst).s = 0) ∨ (useS op ∧ (r2 src).s = 0) ∨ (op = 24 ∧ (r2 0).s = 0)) by rw [ds, qs, c0]; exact n1)]
  have m2 : ¬ ((op = 14 ∨ op = 15) ∧ (if useM op then (⟨1, imm, imm⟩ : Rng) else r2 src).l = 0) := by
    rintro ⟨h, h0⟩
    have hu : ¬ useM op := by unfold useM; omega
    rw [if_neg hu] at h0
    refine n2 ⟨h, ?_⟩
    rw [if_neg hu]
    omega
  have m3 : ¬ ((op = 16 ∧ ¬ (0 ≤ (r2 src).l + off ∧ (r2 src).g + off < ctx)) ∨ (op = 17 ∧ ¬ (0 ≤ (r2 src).l + off ∧ (r2 src).g + off < 64)) ∨ (op = 18 ∧ ¬ (0 ≤ (r2 dst).l + off ∧ (r2 dst).g + off < 64))) := by omega
  rw [if_neg m2, if_neg m3]
  have h1 := hM.1
  have h24 := hM.2.1
  have h12 := hM.2.2.2.2.2.2.2.2.2.2.1
  clear m2 m3 n1 n3 he
  by_cases a : op ≤ 15
  · simp only [if_pos a]
    refine ⟨trivial, wiO_one hc ?_, trivial⟩
    by_cases hu : useM op
    · simp only [if_pos hu]
      exact made_mono h1 a cd ⟨rfl, ⟨Int.le_refl _, Int.le_refl _⟩, Int.le_refl _, h4.1, h4.2⟩ (fun _ => rfl) (fun h => by exfalso; revert hu; unfold useM; omega)
    · simp only [if_neg hu] at n2 ⊢
      exact made_mono h1 a cd cq (fun h => absurd (by unfold useM; omega) hu) (fun h => by
        have : ¬ (r1 src).l = 0 := fun h0 => n2 ⟨h, h0⟩
        omega)
  simp only [if_neg a]
  by_cases b : op ≤ 17
  · simp only [if_pos b]
    exact ⟨trivial, wiO_one hc (wi_same _), trivial⟩
  simp only [if_neg b]
  clear n2 h12
  have hop : op = 18 ∨ op = 19 ∨ op = 20 ∨ op = 21 ∨ op = 22 ∨ op = 23 ∨ op = 24 := by omega
  generalize hD2 : r2 dst = D2 at *
  generalize hD1 : r1 dst = D1 at *
  generalize hQ2 : r2 src = Q2 at *
  generalize hQ1 : r1 src = Q1 at *
  rcases hop with rfl | rfl | rfl | rfl | rfl | rfl | rfl
  · simp
    exact ⟨wiO_nil hc, trivial⟩
  · simp
    exact ⟨trivial, wiO_nil hc⟩
  · simp
    refine ⟨?_, ?_⟩
    · by_cases e2 : D2.l = imm ∧ D2.g = imm
      · rw [if_pos e2]; trivial
      · rw [if_neg e2, if_neg (show ¬ (D1.l = imm ∧ D1.g = imm) by omega)]
        refine wiO_one hc ?_
        split <;> split <;> (try split) <;> (try split) <;> exact wi_mk (by decide) (by omega) (by omega)
    · by_cases e2 : D2.l ≤ imm ∧ imm ≤ D2.g
      · rw [if_pos e2, if_pos (show D1.l ≤ imm ∧ imm ≤ D1.g by omega)]
        exact wiO_one hc (wi_same _)
      · rw [if_neg e2]; trivial
  · simp
    refine ⟨?_, ?_⟩
    · by_cases e2 : imm ≤ D2.g
      · rw [if_pos e2, if_pos (show imm ≤ D1.g by omega)]
        exact wiO_one hc (wi_mk (by decide) (mx_mono (by omega) (by omega)) (by omega))
      · rw [if_neg e2]; trivial
    · by_cases e2 : D2.l < imm
      · rw [if_pos e2, if_pos (show D1.l < imm by omega)]
        exact wiO_one hc (wi_mk (by decide) (by omega) (mn_mono (by omega) (by omega)))
      · rw [if_neg e2]; trivial
  · simp
    by_cases e0 : dst = src
    · simp only [if_pos e0]
      exact ⟨trivial, wiO_nil hc, trivial⟩
    · simp only [if_neg e0]
      refine ⟨trivial, ?_, ?_⟩
      · by_cases e2 : Q2.l ≤ D2.g
        · rw [if_pos e2, if_pos (show Q1.l ≤ D1.g by omega)]
          exact wiO_two hc (wi_mk (by decide) (mx_mono (by omega) (by omega)) (by omega)) (wi_mk (by decide) (by omega) (mn_mono (by omega) (by omega)))
        · rw [if_neg e2]; trivial
      · by_cases e2 : D2.l < Q2.g
        · rw [if_pos e2, if_pos (show D1.l < Q1.g by omega)]
          exact wiO_two hc (wi_mk (by decide) (by omega) (mn_mono (by omega) (by omega))) (wi_mk (by decide) (mx_mono (by omega) (by omega)) (by omega))
        · rw [if_neg e2]; trivial
  · simp
    refine ⟨fun j j0 j1 => ?_, trivial⟩
    unfold putsF
    simp only [List.foldl]
    exact wi_upd (wi_same _) (wi_upd (wi_same _) (wi_upd (wi_same _) (wi_upd (wi_same _) (wi_upd (wi_same _) (wi_upd (wi_same _) (wi_cut (hc j j0 j1)))))))
  · simp
    exact trivial
end Go.Ck
