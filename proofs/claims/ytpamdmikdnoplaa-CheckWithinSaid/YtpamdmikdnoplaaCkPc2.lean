/- What an instruction makes, Op by Op: the words of the contracts. -/
import Derived.Test.YtpamdmikdnoplaaSxP
import Derived.Test.YtpamdmikdnoplaaCkPc
namespace Go.Ck
open Go.Sx
def ones79C : PC := { shs := [.one (some .u64)], pre := [.le (.lit 0) (.var 0), .le (.var 0) (.lit 4294967295)], post := .int .u64 (.app 71 (nameL 0 [some .u64])) }
def C14 : FuncId → Option Ctr := fun | 43 => some mayC.ctr | 29 => some rightC.ctr | 79 => some ones79C.ctr | _ => none
def C18 : FuncId → Option Ctr := fun | 53 => some onesC.ctr | 54 => some powerC.ctr | _ => none
def behK : List Kd := insK ++ [some .i64] ++ knownK
def behBase : List SV := symL 7 regsK
/-- The arguments, of one Op. -/
def behA (k : Int) : List SV := [.agg (.ofL (.int .i64 (.lit k) :: symL 1 [some .i64, some .i64, some .i64, some .u32])), .int .i64 (.var 5), .agg (.ofL (symL 6 knownK))]
def mayE (k : Int) : E := .app 300 (.cons (.lit k) (nameL 1 [some .i64, some .i64, some .i64, some .u32]))
def rightE : E := .app 301 (nameL 7 regsK)
def pre14 (k : Int) : List E := mayE k :: rightE :: .le (.lit 0) (.var 5) :: .le (.var 5) (.lit 256) :: .bvar 6 :: rngPre 0 behK
def pre18 (k : Int) : List E := mayE k :: rightE :: .bvar 6 :: rngPre 0 behK
def leaf14 (p : List E) : SV → Option (List E)
  | .tup (.cons (.agg a) (.cons (.agg b) (.cons (.int .i64 e) .nil))) => match eqKnown p behBase 101 a.toL, eqKnown p behBase 130 b.toL with
    | some x, some y => some (.mkEq e (.var 100) :: (x ++ y))
    | _, _ => none
  | _ => none
def leaf18 (p : List E) : SV → Option (List E)
  | .agg l => match eqKnown p behBase 101 (l.toL.take 31), eqKnown p behBase 130 ((l.toL.drop 31).take 31), l.toL.drop 62 with
    | some x, some y, [.int .i64 e] => some (.mkEq e (.var 100) :: (x ++ y))
    | _, _, _ => none
  | _ => none
end Go.Ck
