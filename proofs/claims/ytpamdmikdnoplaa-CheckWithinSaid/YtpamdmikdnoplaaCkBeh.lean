/- What an instruction makes of what is known, in plain numbers. -/
namespace Go.Ck
/-- What an Op uses. -/
abbrev useD (op : Int) : Prop := (1 ≤ op ∧ op ≤ 18) ∨ (20 ≤ op ∧ op ≤ 22)
abbrev useS (op : Int) : Prop := op = 2 ∨ op = 4 ∨ op = 5 ∨ op = 7 ∨ (9 ≤ op ∧ op ≤ 11) ∨ (14 ≤ op ∧ op ≤ 18) ∨ op = 22
abbrev useM (op : Int) : Prop := op = 1 ∨ op = 3 ∨ op = 6 ∨ op = 8 ∨ op = 12 ∨ op = 13 ∨ op = 20 ∨ op = 21 ∨ op = 23
/-- May an instruction be? -/
abbrev MayP (op dst src off imm : Int) : Prop :=
  1 ≤ op ∧ op ≤ 24 ∧ (useD op → 0 ≤ dst ∧ dst ≤ 9) ∧ (¬ useD op → dst = 0) ∧ (useS op → 0 ≤ src ∧ src ≤ 9) ∧ (¬ useS op → src = 0) ∧
  (16 ≤ op ∧ op ≤ 18 → -32768 ≤ off ∧ off ≤ 32767) ∧ (19 ≤ op ∧ op ≤ 22 → 0 ≤ off ∧ off ≤ 255) ∧ (op < 16 ∨ 22 < op → off = 0) ∧
  (¬ useM op → imm = 0) ∧ (op = 12 ∨ op = 13 → imm ≤ 31) ∧ (op = 23 → imm ≤ 7)
/-- The ones of a number: the least 2 ^ k - 1 that is not less. -/
def onesN : Nat → Int → Int → Int
  | 0, m, _ => m
  | f + 1, m, n => if m < n then onesN f (2 * m + 1) n else m
def ones (n : Int) : Int := onesN 33 0 n
noncomputable def bit (p : Prop) : Int := @ite _ p (Classical.propDecidable p) 1 0
theorem bit_ne (p : Prop) : bit p ≠ 0 ↔ p := by
  unfold bit
  rcases Classical.em p with h | h
  · rw [if_pos h]; simp [h]
  · rw [if_neg h]; simp [h]
theorem bit_01 (p : Prop) : 0 ≤ bit p ∧ bit p ≤ 1 := by
  unfold bit
  rcases Classical.em p with h | h
  · rw [if_pos h]; omega
  · rw [if_neg h]; omega
/-- Of three cells a register: may they be? -/
abbrev RightR (s l g : Int) : Prop := l ≤ g ∧ (s = 0 → l = 0 ∧ g = 0)
def rightL : List Int → Prop
  | s :: l :: g :: r => RightR s l g ∧ rightL r
  | _ => True
/-- The functions of numbers that the contracts name. -/
noncomputable def I0 (lenI : Int → Int) (more : Nat → List Int → Int) : Nat → List Int → Int
  | 64, [x] => lenI x
  | 71, [x] => ones x
  | 72, [x] => 2 ^ x.toNat
  | 300, [op, dst, src, off, imm] => bit (MayP op dst src off imm)
  | 301, l => bit (rightL l)
  | f, l => more f l
end Go.Ck
