/- What an instruction makes: the words of the contracts for its callers. -/
import Derived.Test.YtpamdmikdnoplaaCkPc2
namespace Go.Ck
open Go.Sx
def behShs : List Sh := [.row insK, .one (some .i64), .row knownK]
def mayS : E := .app 300 (nameL 0 insK)
def preM : List E := mayS :: rightE :: .le (.lit 0) (.var 5) :: .le (.var 5) (.lit 256) :: .bvar 6 :: rngPre 0 behK
def argE : E := .cons (.var 0) (.cons (.var 1) (.cons (.var 2) (.cons (.var 3) (.cons (.var 4) (.cons (.var 5) (nameL 7 regsK))))))
def rowE (s l g : Nat) : List SV := [.bool (.app s argE), .int .u32 (.app l argE), .int .u32 (.app g argE)]
def knownE (c s l g : Nat) : List SV := .bool (.app c argE) :: (rowE s l g ++ (rowE (s + 1) (l + 1) (g + 1) ++ (rowE (s + 2) (l + 2) (g + 2) ++ (rowE (s + 3) (l + 3) (g + 3) ++ (rowE (s + 4) (l + 4) (g + 4) ++ (rowE (s + 5) (l + 5) (g + 5) ++
  (rowE (s + 6) (l + 6) (g + 6) ++ (rowE (s + 7) (l + 7) (g + 7) ++ (rowE (s + 8) (l + 8) (g + 8) ++ rowE (s + 9) (l + 9) (g + 9))))))))))
def behC : PC := { shs := behShs, pre := preM, post := .tup (.ofL [.agg (.ofL (knownE 160 140 100 110)), .agg (.ofL (knownE 161 150 120 130)), .int .i64 (.app 162 argE)]) }
def refC : PC := { shs := behShs, pre := preM, post := .agg (.ofL (knownE 160 140 100 110 ++ (knownE 161 150 120 130 ++ [.int .i64 (.app 162 argE)]))) }
end Go.Ck
