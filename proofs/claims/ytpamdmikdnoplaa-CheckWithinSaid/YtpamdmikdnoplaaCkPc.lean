/- Contracts: their words. -/
import Derived.Test.YtpamdmikdnoplaaSxS
import Derived.Test.YtpamdmikdnoplaaCkBeh
namespace Go.Ck
open Go.Sx
def rngK : List Kd := [none, some .u32, some .u32]
def regsK : List Kd := (List.replicate 10 rngK).flatten
def knownK : List Kd := none :: regsK
def insK : List Kd := [some .i64, some .i64, some .i64, some .i64, some .u32]
/-- All arguments, by name, as numbers. -/
def nameL (n : Nat) : List Kd → E
  | [] => .nil
  | none :: ks => .cons (.bvar n) (nameL (n + 1) ks)
  | some _ :: ks => .cons (.var n) (nameL (n + 1) ks)
def mayC : PC := { shs := [.row insK], pre := rngPre 0 insK, post := .bool (.app 300 (nameL 0 insK)) }
def rightC : PC := { shs := [.row knownK], pre := [], post := .bool (.app 301 (nameL 1 regsK)) }
def onesC : PC := { shs := [.one (some .i64)], pre := [.le (.lit 0) (.var 0), .le (.var 0) (.lit 4294967295)], post := .int .i64 (.app 71 (nameL 0 [some .i64])) }
def powerC : PC := { shs := [.one (some .i64)], pre := [.le (.lit 0) (.var 0), .le (.var 0) (.lit 31)], post := .int .i64 (.app 72 (nameL 0 [some .i64])) }
end Go.Ck
