/- What an instruction makes of what is known: the plain function. -/
import Derived.Test.YtpamdmikdnoplaaCkBeh
namespace Go.Ck
structure Rng where
  s : Int
  l : Int
  g : Int
  deriving DecidableEq
abbrev zR : Rng := ⟨0, 0, 0⟩
abbrev allR : Rng := ⟨1, 0, 4294967295⟩
abbrev Puts := List (Int × Rng)
structure Beh where
  err : Int
  next : Option Puts
  jumped : Option Puts
def mn (a b : Int) : Int := if b < a then b else a
def mx (a b : Int) : Int := if a < b then b else a
def fit (l g : Int) : Rng := if 4294967295 < g then allR else ⟨1, l, g⟩
def made (op : Int) (d s : Rng) : Rng :=
  if op ≤ 2 then ⟨1, s.l, s.g⟩
  else if op ≤ 4 then fit (d.l + s.l) (d.g + s.g)
  else if op = 5 then (if d.l < s.g then allR else ⟨1, d.l - s.g, d.g - s.l⟩)
  else if op ≤ 7 then fit (d.l * s.l) (d.g * s.g)
  else if op ≤ 9 then ⟨1, 0, mn d.g s.g⟩
  else if op = 10 then ⟨1, mx d.l s.l, ones (mx d.g s.g)⟩
  else if op = 11 then ⟨1, 0, ones (mx d.g s.g)⟩
  else if op = 12 then fit (d.l * 2 ^ s.l.toNat) (d.g * 2 ^ s.l.toNat)
  else if op = 13 then ⟨1, d.l / 2 ^ s.l.toNat, d.g / 2 ^ s.l.toNat⟩
  else if op = 14 then ⟨1, d.l / s.g, d.g / s.l⟩
  else ⟨1, 0, mn d.g (s.g - 1)⟩
def needs (op : Int) : Prop := 3 ≤ op ∧ op ≤ 22 ∧ op ≠ 16 ∧ op ≠ 17 ∧ op ≠ 19
instance (op : Int) : Decidable (needs op) := by unfold needs; infer_instance
/-- Of a register's range d (Dst), q (Src), whether register 0 is set. -/
def beh (op dst src off imm ctx : Int) (d q : Rng) (s0 : Int) : Beh :=
  let s : Rng := if useM op then ⟨1, imm, imm⟩ else q
  if (needs op ∧ d.s = 0) ∨ (useS op ∧ q.s = 0) ∨ (op = 24 ∧ s0 = 0) then ⟨161, none, none⟩
  else if (op = 14 ∨ op = 15) ∧ s.l = 0 then ⟨162, none, none⟩
  else if (op = 16 ∧ ¬ (0 ≤ q.l + off ∧ q.g + off < ctx)) ∨ (op = 17 ∧ ¬ (0 ≤ q.l + off ∧ q.g + off < 64)) ∨ (op = 18 ∧ ¬ (0 ≤ d.l + off ∧ d.g + off < 64)) then ⟨163, none, none⟩
  else if op ≤ 15 then ⟨0, some [(dst, made op d s)], none⟩
  else if op ≤ 17 then ⟨0, some [(dst, ⟨1, 0, 255⟩)], none⟩
  else if op = 18 then ⟨0, some [], none⟩
  else if op = 19 then ⟨0, none, some []⟩
  else if op = 20 then ⟨0, if d.l = imm ∧ d.g = imm then none else some [(dst, if imm = d.l then ⟨1, d.l + 1, d.g⟩ else if imm = d.g then ⟨1, d.l, d.g - 1⟩ else ⟨1, d.l, d.g⟩)],
    if d.l ≤ imm ∧ imm ≤ d.g then some [(dst, ⟨1, imm, imm⟩)] else none⟩
  else if op = 21 then ⟨0, if imm ≤ d.g then some [(dst, ⟨1, mx d.l imm, d.g⟩)] else none, if d.l < imm then some [(dst, ⟨1, d.l, mn d.g (imm - 1)⟩)] else none⟩
  else if op = 22 then (if dst = src then ⟨0, some [], none⟩ else
    ⟨0, if q.l ≤ d.g then some [(dst, ⟨1, mx d.l q.l, d.g⟩), (src, ⟨1, q.l, mn q.g d.g⟩)] else none,
      if d.l < q.g then some [(dst, ⟨1, d.l, mn d.g (q.g - 1)⟩), (src, ⟨1, mx q.l (d.l + 1), q.g⟩)] else none⟩)
  else if op = 23 then ⟨0, some [(5, zR), (4, zR), (3, zR), (2, zR), (1, zR), (0, allR)], none⟩
  else ⟨0, none, none⟩
def upd (r : Int → Rng) (p : Int × Rng) : Int → Rng := fun x => if x = p.1 then p.2 else r x
def putsF (r : Int → Rng) (ps : Puts) : Int → Rng := ps.foldl upd r
/-- The ranges behind: none is known where it is not gone. -/
def regsO (r : Int → Rng) : Option Puts → Int → Rng
  | none => fun _ => zR
  | some ps => putsF r ps
/-- Of a list of arguments: the ranges; all. -/
def decR (l : List Int) (x : Int) : Rng := ⟨l.getD (6 + 3 * x.toNat) 0, l.getD (7 + 3 * x.toNat) 0, l.getD (8 + 3 * x.toNat) 0⟩
def behL (l : List Int) : Beh := beh (l.getD 0 0) (l.getD 1 0) (l.getD 2 0) (l.getD 3 0) (l.getD 4 0) (l.getD 5 0) (decR l (l.getD 1 0)) (decR l (l.getD 2 0)) (decR l 0).s
/-- The cells of what is made, as functions of the arguments. -/
def behI (f : Nat) (l : List Int) : Int :=
  if f < 100 then 0
  else if f < 110 then (regsO (decR l) (behL l).next ((f - 100 : Nat) : Int)).l
  else if f < 120 then (regsO (decR l) (behL l).next ((f - 110 : Nat) : Int)).g
  else if f < 130 then (regsO (decR l) (behL l).jumped ((f - 120 : Nat) : Int)).l
  else if f < 140 then (regsO (decR l) (behL l).jumped ((f - 130 : Nat) : Int)).g
  else if f < 150 then (regsO (decR l) (behL l).next ((f - 140 : Nat) : Int)).s
  else if f < 160 then (regsO (decR l) (behL l).jumped ((f - 150 : Nat) : Int)).s
  else if f = 160 then (if (behL l).next.isSome then 1 else 0)
  else if f = 161 then (if (behL l).jumped.isSome then 1 else 0)
  else if f = 162 then (behL l).err
  else 0
/-- Numbers for what is put. -/
def codeP : Puts → List Int
  | [] => []
  | (d, r) :: ps => d :: r.s :: r.l :: r.g :: codeP ps
def codeK : Option Puts → List Int
  | none => [0]
  | some ps => ((ps.length + 1 : Nat) : Int) :: codeP ps
/-- From 0 on the error, from 1 on what is known behind, from 30 on behind the jump. -/
def codeB (b : Beh) (n : Nat) : Int := if n = 0 then b.err else if n < 30 then (codeK b.next).getD (n - 1) 0 else (codeK b.jumped).getD (n - 30) 0
end Go.Ck
