/- The law CheckWithin returns true whatever the input, and each argument reads behind the call as it read before; no condition. -/
import Derived.Test.YtpamdmikdnoplaaCkCut
import Derived.Test.YtpamdmikdnoplaaRows
import Derived.WalkKit
import Derived.ProofKit
import Derived.OpenShut
import Derived.ShutString
import Derived.ChangeOld
import Derived.Below
import Derived.Carry
namespace Go.Proofs.Ytpamdmikdnoplaa.CheckWithin
open Go.ChangeShapes Go.WideShapes Go.ChangeAt Go.RowKit Go.Sx
set_option linter.unusedVariables false
set_option maxRecDepth 100000

theorem own : ownKnob Try.prog.godebug = none := by kernel_rfl
theorem laidOut : laidOutB Try.prog = true := by kernel_rfl
def shs : List Sh := [.row [some .i64, some .i64, some .i64, some .i64, some .u32], .one (some .i64), .row (Go.Ck.knownK ++ (List.replicate 10 (some .u32) ++ List.replicate 10 (some .u32)))]
def ag0 : Go.Sx.E := (.cons (.var 0) (.cons (.var 1) (.cons (.var 2) (.cons (.var 3) (.cons (.var 4) (.cons (.var 5) (.cons (.ite (.ite (.bvar 7) (.lit 1) (.bvar 7)) (.lit 1) (.lit 0)) (.cons (.ite (.bvar 7) (.wrap .u32 (.ite (.lt (.bin .add .i64 (.wrap .i64 (.var 8)) (.wrap .i64 (.var 37))) (.wrap .i64 (.var 9))) (.bin .add .i64 (.wrap .i64 (.var 8)) (.wrap .i64 (.var 37))) (.wrap .i64 (.var 9)))) (.var 8)) (.cons (.ite (.bvar 7) (.wrap .u32 (.ite (.lt (.wrap .i64 (.wrap .u32 (.ite (.lt (.bin .add .i64 (.wrap .i64 (.var 8)) (.wrap .i64 (.var 37))) (.wrap .i64 (.var 9))) (.bin .add .i64 (.wrap .i64 (.var 8)) (.wrap .i64 (.var 37))) (.wrap .i64 (.var 9))))) (.bin .sub .i64 (.wrap .i64 (.var 9)) (.wrap .i64 (.var 47)))) (.bin .sub .i64 (.wrap .i64 (.var 9)) (.wrap .i64 (.var 47))) (.wrap .i64 (.wrap .u32 (.ite (.lt (.bin .add .i64 (.wrap .i64 (.var 8)) (.wrap .i64 (.var 37))) (.wrap .i64 (.var 9))) (.bin .add .i64 (.wrap .i64 (.var 8)) (.wrap .i64 (.var 37))) (.wrap .i64 (.var 9))))))) (.var 9)) (.cons (.ite (.ite (.bvar 10) (.lit 1) (.bvar 10)) (.lit 1) (.lit 0)) (.cons (.ite (.bvar 10) (.wrap .u32 (.ite (.lt (.bin .add .i64 (.wrap .i64 (.var 11)) (.wrap .i64 (.var 38))) (.wrap .i64 (.var 12))) (.bin .add .i64 (.wrap .i64 (.var 11)) (.wrap .i64 (.var 38))) (.wrap .i64 (.var 12)))) (.var 11)) (.cons (.ite (.bvar 10) (.wrap .u32 (.ite (.lt (.wrap .i64 (.wrap .u32 (.ite (.lt (.bin .add .i64 (.wrap .i64 (.var 11)) (.wrap .i64 (.var 38))) (.wrap .i64 (.var 12))) (.bin .add .i64 (.wrap .i64 (.var 11)) (.wrap .i64 (.var 38))) (.wrap .i64 (.var 12))))) (.bin .sub .i64 (.wrap .i64 (.var 12)) (.wrap .i64 (.var 48)))) (.bin .sub .i64 (.wrap .i64 (.var 12)) (.wrap .i64 (.var 48))) (.wrap .i64 (.wrap .u32 (.ite (.lt (.bin .add .i64 (.wrap .i64 (.var 11)) (.wrap .i64 (.var 38))) (.wrap .i64 (.var 12))) (.bin .add .i64 (.wrap .i64 (.var 11)) (.wrap .i64 (.var 38))) (.wrap .i64 (.var 12))))))) (.var 12)) (.cons (.ite (.ite (.bvar 13) (.lit 1) (.bvar 13)) (.lit 1) (.lit 0)) (.cons (.ite (.bvar 13) (.wrap .u32 (.ite (.lt (.bin .add .i64 (.wrap .i64 (.var 14)) (.wrap .i64 (.var 39))) (.wrap .i64 (.var 15))) (.bin .add .i64 (.wrap .i64 (.var 14)) (.wrap .i64 (.var 39))) (.wrap .i64 (.var 15)))) (.var 14)) (.cons (.ite (.bvar 13) (.wrap .u32 (.ite (.lt (.wrap .i64 (.wrap .u32 (.ite (.lt (.bin .add .i64 (.wrap .i64 (.var 14)) (.wrap .i64 (.var 39))) (.wrap .i64 (.var 15))) (.bin .add .i64 (.wrap .i64 (.var 14)) (.wrap .i64 (.var 39))) (.wrap .i64 (.var 15))))) (.bin .sub .i64 (.wrap .i64 (.var 15)) (.wrap .i64 (.var 49)))) (.bin .sub .i64 (.wrap .i64 (.var 15)) (.wrap .i64 (.var 49))) (.wrap .i64 (.wrap .u32 (.ite (.lt (.bin .add .i64 (.wrap .i64 (.var 14)) (.wrap .i64 (.var 39))) (.wrap .i64 (.var 15))) (.bin .add .i64 (.wrap .i64 (.var 14)) (.wrap .i64 (.var 39))) (.wrap .i64 (.var 15))))))) (.var 15)) (.cons (.ite (.ite (.bvar 16) (.lit 1) (.bvar 16)) (.lit 1) (.lit 0)) (.cons (.ite (.bvar 16) (.wrap .u32 (.ite (.lt (.bin .add .i64 (.wrap .i64 (.var 17)) (.wrap .i64 (.var 40))) (.wrap .i64 (.var 18))) (.bin .add .i64 (.wrap .i64 (.var 17)) (.wrap .i64 (.var 40))) (.wrap .i64 (.var 18)))) (.var 17)) (.cons (.ite (.bvar 16) (.wrap .u32 (.ite (.lt (.wrap .i64 (.wrap .u32 (.ite (.lt (.bin .add .i64 (.wrap .i64 (.var 17)) (.wrap .i64 (.var 40))) (.wrap .i64 (.var 18))) (.bin .add .i64 (.wrap .i64 (.var 17)) (.wrap .i64 (.var 40))) (.wrap .i64 (.var 18))))) (.bin .sub .i64 (.wrap .i64 (.var 18)) (.wrap .i64 (.var 50)))) (.bin .sub .i64 (.wrap .i64 (.var 18)) (.wrap .i64 (.var 50))) (.wrap .i64 (.wrap .u32 (.ite (.lt (.bin .add .i64 (.wrap .i64 (.var 17)) (.wrap .i64 (.var 40))) (.wrap .i64 (.var 18))) (.bin .add .i64 (.wrap .i64 (.var 17)) (.wrap .i64 (.var 40))) (.wrap .i64 (.var 18))))))) (.var 18)) (.cons (.ite (.ite (.bvar 19) (.lit 1) (.bvar 19)) (.lit 1) (.lit 0)) (.cons (.ite (.bvar 19) (.wrap .u32 (.ite (.lt (.bin .add .i64 (.wrap .i64 (.var 20)) (.wrap .i64 (.var 41))) (.wrap .i64 (.var 21))) (.bin .add .i64 (.wrap .i64 (.var 20)) (.wrap .i64 (.var 41))) (.wrap .i64 (.var 21)))) (.var 20)) (.cons (.ite (.bvar 19) (.wrap .u32 (.ite (.lt (.wrap .i64 (.wrap .u32 (.ite (.lt (.bin .add .i64 (.wrap .i64 (.var 20)) (.wrap .i64 (.var 41))) (.wrap .i64 (.var 21))) (.bin .add .i64 (.wrap .i64 (.var 20)) (.wrap .i64 (.var 41))) (.wrap .i64 (.var 21))))) (.bin .sub .i64 (.wrap .i64 (.var 21)) (.wrap .i64 (.var 51)))) (.bin .sub .i64 (.wrap .i64 (.var 21)) (.wrap .i64 (.var 51))) (.wrap .i64 (.wrap .u32 (.ite (.lt (.bin .add .i64 (.wrap .i64 (.var 20)) (.wrap .i64 (.var 41))) (.wrap .i64 (.var 21))) (.bin .add .i64 (.wrap .i64 (.var 20)) (.wrap .i64 (.var 41))) (.wrap .i64 (.var 21))))))) (.var 21)) (.cons (.ite (.ite (.bvar 22) (.lit 1) (.bvar 22)) (.lit 1) (.lit 0)) (.cons (.ite (.bvar 22) (.wrap .u32 (.ite (.lt (.bin .add .i64 (.wrap .i64 (.var 23)) (.wrap .i64 (.var 42))) (.wrap .i64 (.var 24))) (.bin .add .i64 (.wrap .i64 (.var 23)) (.wrap .i64 (.var 42))) (.wrap .i64 (.var 24)))) (.var 23)) (.cons (.ite (.bvar 22) (.wrap .u32 (.ite (.lt (.wrap .i64 (.wrap .u32 (.ite (.lt (.bin .add .i64 (.wrap .i64 (.var 23)) (.wrap .i64 (.var 42))) (.wrap .i64 (.var 24))) (.bin .add .i64 (.wrap .i64 (.var 23)) (.wrap .i64 (.var 42))) (.wrap .i64 (.var 24))))) (.bin .sub .i64 (.wrap .i64 (.var 24)) (.wrap .i64 (.var 52)))) (.bin .sub .i64 (.wrap .i64 (.var 24)) (.wrap .i64 (.var 52))) (.wrap .i64 (.wrap .u32 (.ite (.lt (.bin .add .i64 (.wrap .i64 (.var 23)) (.wrap .i64 (.var 42))) (.wrap .i64 (.var 24))) (.bin .add .i64 (.wrap .i64 (.var 23)) (.wrap .i64 (.var 42))) (.wrap .i64 (.var 24))))))) (.var 24)) (.cons (.ite (.ite (.bvar 25) (.lit 1) (.bvar 25)) (.lit 1) (.lit 0)) (.cons (.ite (.bvar 25) (.wrap .u32 (.ite (.lt (.bin .add .i64 (.wrap .i64 (.var 26)) (.wrap .i64 (.var 43))) (.wrap .i64 (.var 27))) (.bin .add .i64 (.wrap .i64 (.var 26)) (.wrap .i64 (.var 43))) (.wrap .i64 (.var 27)))) (.var 26)) (.cons (.ite (.bvar 25) (.wrap .u32 (.ite (.lt (.wrap .i64 (.wrap .u32 (.ite (.lt (.bin .add .i64 (.wrap .i64 (.var 26)) (.wrap .i64 (.var 43))) (.wrap .i64 (.var 27))) (.bin .add .i64 (.wrap .i64 (.var 26)) (.wrap .i64 (.var 43))) (.wrap .i64 (.var 27))))) (.bin .sub .i64 (.wrap .i64 (.var 27)) (.wrap .i64 (.var 53)))) (.bin .sub .i64 (.wrap .i64 (.var 27)) (.wrap .i64 (.var 53))) (.wrap .i64 (.wrap .u32 (.ite (.lt (.bin .add .i64 (.wrap .i64 (.var 26)) (.wrap .i64 (.var 43))) (.wrap .i64 (.var 27))) (.bin .add .i64 (.wrap .i64 (.var 26)) (.wrap .i64 (.var 43))) (.wrap .i64 (.var 27))))))) (.var 27)) (.cons (.ite (.ite (.bvar 28) (.lit 1) (.bvar 28)) (.lit 1) (.lit 0)) (.cons (.ite (.bvar 28) (.wrap .u32 (.ite (.lt (.bin .add .i64 (.wrap .i64 (.var 29)) (.wrap .i64 (.var 44))) (.wrap .i64 (.var 30))) (.bin .add .i64 (.wrap .i64 (.var 29)) (.wrap .i64 (.var 44))) (.wrap .i64 (.var 30)))) (.var 29)) (.cons (.ite (.bvar 28) (.wrap .u32 (.ite (.lt (.wrap .i64 (.wrap .u32 (.ite (.lt (.bin .add .i64 (.wrap .i64 (.var 29)) (.wrap .i64 (.var 44))) (.wrap .i64 (.var 30))) (.bin .add .i64 (.wrap .i64 (.var 29)) (.wrap .i64 (.var 44))) (.wrap .i64 (.var 30))))) (.bin .sub .i64 (.wrap .i64 (.var 30)) (.wrap .i64 (.var 54)))) (.bin .sub .i64 (.wrap .i64 (.var 30)) (.wrap .i64 (.var 54))) (.wrap .i64 (.wrap .u32 (.ite (.lt (.bin .add .i64 (.wrap .i64 (.var 29)) (.wrap .i64 (.var 44))) (.wrap .i64 (.var 30))) (.bin .add .i64 (.wrap .i64 (.var 29)) (.wrap .i64 (.var 44))) (.wrap .i64 (.var 30))))))) (.var 30)) (.cons (.ite (.ite (.bvar 31) (.lit 1) (.bvar 31)) (.lit 1) (.lit 0)) (.cons (.ite (.bvar 31) (.wrap .u32 (.ite (.lt (.bin .add .i64 (.wrap .i64 (.var 32)) (.wrap .i64 (.var 45))) (.wrap .i64 (.var 33))) (.bin .add .i64 (.wrap .i64 (.var 32)) (.wrap .i64 (.var 45))) (.wrap .i64 (.var 33)))) (.var 32)) (.cons (.ite (.bvar 31) (.wrap .u32 (.ite (.lt (.wrap .i64 (.wrap .u32 (.ite (.lt (.bin .add .i64 (.wrap .i64 (.var 32)) (.wrap .i64 (.var 45))) (.wrap .i64 (.var 33))) (.bin .add .i64 (.wrap .i64 (.var 32)) (.wrap .i64 (.var 45))) (.wrap .i64 (.var 33))))) (.bin .sub .i64 (.wrap .i64 (.var 33)) (.wrap .i64 (.var 55)))) (.bin .sub .i64 (.wrap .i64 (.var 33)) (.wrap .i64 (.var 55))) (.wrap .i64 (.wrap .u32 (.ite (.lt (.bin .add .i64 (.wrap .i64 (.var 32)) (.wrap .i64 (.var 45))) (.wrap .i64 (.var 33))) (.bin .add .i64 (.wrap .i64 (.var 32)) (.wrap .i64 (.var 45))) (.wrap .i64 (.var 33))))))) (.var 33)) (.cons (.ite (.ite (.bvar 34) (.lit 1) (.bvar 34)) (.lit 1) (.lit 0)) (.cons (.ite (.bvar 34) (.wrap .u32 (.ite (.lt (.bin .add .i64 (.wrap .i64 (.var 35)) (.wrap .i64 (.var 46))) (.wrap .i64 (.var 36))) (.bin .add .i64 (.wrap .i64 (.var 35)) (.wrap .i64 (.var 46))) (.wrap .i64 (.var 36)))) (.var 35)) (.cons (.ite (.bvar 34) (.wrap .u32 (.ite (.lt (.wrap .i64 (.wrap .u32 (.ite (.lt (.bin .add .i64 (.wrap .i64 (.var 35)) (.wrap .i64 (.var 46))) (.wrap .i64 (.var 36))) (.bin .add .i64 (.wrap .i64 (.var 35)) (.wrap .i64 (.var 46))) (.wrap .i64 (.var 36))))) (.bin .sub .i64 (.wrap .i64 (.var 36)) (.wrap .i64 (.var 56)))) (.bin .sub .i64 (.wrap .i64 (.var 36)) (.wrap .i64 (.var 56))) (.wrap .i64 (.wrap .u32 (.ite (.lt (.bin .add .i64 (.wrap .i64 (.var 35)) (.wrap .i64 (.var 46))) (.wrap .i64 (.var 36))) (.bin .add .i64 (.wrap .i64 (.var 35)) (.wrap .i64 (.var 46))) (.wrap .i64 (.var 36))))))) (.var 36)) .nil))))))))))))))))))))))))))))))))))))
def ag1 : Go.Sx.E := (.cons (.var 0) (.cons (.var 1) (.cons (.var 2) (.cons (.var 3) (.cons (.var 4) (.cons (.var 5) (.cons (.bvar 7) (.cons (.var 8) (.cons (.var 9) (.cons (.bvar 10) (.cons (.var 11) (.cons (.var 12) (.cons (.bvar 13) (.cons (.var 14) (.cons (.var 15) (.cons (.bvar 16) (.cons (.var 17) (.cons (.var 18) (.cons (.bvar 19) (.cons (.var 20) (.cons (.var 21) (.cons (.bvar 22) (.cons (.var 23) (.cons (.var 24) (.cons (.bvar 25) (.cons (.var 26) (.cons (.var 27) (.cons (.bvar 28) (.cons (.var 29) (.cons (.var 30) (.cons (.bvar 31) (.cons (.var 32) (.cons (.var 33) (.cons (.bvar 34) (.cons (.var 35) (.cons (.var 36) .nil))))))))))))))))))))))))))))))))))))

def asked : NT :=
 (.ite (.not (.ite (.ite (.not (.app (.app 300 (.cons (.var 0) (.cons (.var 1) (.cons (.var 2) (.cons (.var 3) (.cons (.var 4) .nil)))))))) (.lit 1) (.lt (.var 5) (.lit 0))) (.lit 1) (.lt (.lit 256) (.var 5))))
 (.ite (.ite (.not (.app (.app 301 (.cons (.bvar 7) (.cons (.var 8) (.cons (.var 9) (.cons (.bvar 10) (.cons (.var 11) (.cons (.var 12) (.cons (.bvar 13) (.cons (.var 14) (.cons (.var 15) (.cons (.bvar 16) (.cons (.var 17) (.cons (.var 18) (.cons (.bvar 19) (.cons (.var 20) (.cons (.var 21) (.cons (.bvar 22) (.cons (.var 23) (.cons (.var 24) (.cons (.bvar 25) (.cons (.var 26) (.cons (.var 27) (.cons (.bvar 28) (.cons (.var 29) (.cons (.var 30) (.cons (.bvar 31) (.cons (.var 32) (.cons (.var 33) (.cons (.bvar 34) (.cons (.var 35) (.cons (.var 36) .nil))))))))))))))))))))))))))))))))) (.lit 1) (.not (.bvar 6)))
 .ok
 (.both (.goal (.le (.lit 0) (.var 5)))
 (.both (.goal (.le (.var 5) (.lit 256)))
 (.both (.goal (.app (.app 301 (.cons (.ite (.ite (.bvar 7) (.lit 1) (.bvar 7)) (.lit 1) (.lit 0)) (.cons (.ite (.bvar 7) (.wrap .u32 (.ite (.lt (.bin .add .i64 (.wrap .i64 (.var 8)) (.wrap .i64 (.var 37))) (.wrap .i64 (.var 9))) (.bin .add .i64 (.wrap .i64 (.var 8)) (.wrap .i64 (.var 37))) (.wrap .i64 (.var 9)))) (.var 8)) (.cons (.ite (.bvar 7) (.wrap .u32 (.ite (.lt (.wrap .i64 (.wrap .u32 (.ite (.lt (.bin .add .i64 (.wrap .i64 (.var 8)) (.wrap .i64 (.var 37))) (.wrap .i64 (.var 9))) (.bin .add .i64 (.wrap .i64 (.var 8)) (.wrap .i64 (.var 37))) (.wrap .i64 (.var 9))))) (.bin .sub .i64 (.wrap .i64 (.var 9)) (.wrap .i64 (.var 47)))) (.bin .sub .i64 (.wrap .i64 (.var 9)) (.wrap .i64 (.var 47))) (.wrap .i64 (.wrap .u32 (.ite (.lt (.bin .add .i64 (.wrap .i64 (.var 8)) (.wrap .i64 (.var 37))) (.wrap .i64 (.var 9))) (.bin .add .i64 (.wrap .i64 (.var 8)) (.wrap .i64 (.var 37))) (.wrap .i64 (.var 9))))))) (.var 9)) (.cons (.ite (.ite (.bvar 10) (.lit 1) (.bvar 10)) (.lit 1) (.lit 0)) (.cons (.ite (.bvar 10) (.wrap .u32 (.ite (.lt (.bin .add .i64 (.wrap .i64 (.var 11)) (.wrap .i64 (.var 38))) (.wrap .i64 (.var 12))) (.bin .add .i64 (.wrap .i64 (.var 11)) (.wrap .i64 (.var 38))) (.wrap .i64 (.var 12)))) (.var 11)) (.cons (.ite (.bvar 10) (.wrap .u32 (.ite (.lt (.wrap .i64 (.wrap .u32 (.ite (.lt (.bin .add .i64 (.wrap .i64 (.var 11)) (.wrap .i64 (.var 38))) (.wrap .i64 (.var 12))) (.bin .add .i64 (.wrap .i64 (.var 11)) (.wrap .i64 (.var 38))) (.wrap .i64 (.var 12))))) (.bin .sub .i64 (.wrap .i64 (.var 12)) (.wrap .i64 (.var 48)))) (.bin .sub .i64 (.wrap .i64 (.var 12)) (.wrap .i64 (.var 48))) (.wrap .i64 (.wrap .u32 (.ite (.lt (.bin .add .i64 (.wrap .i64 (.var 11)) (.wrap .i64 (.var 38))) (.wrap .i64 (.var 12))) (.bin .add .i64 (.wrap .i64 (.var 11)) (.wrap .i64 (.var 38))) (.wrap .i64 (.var 12))))))) (.var 12)) (.cons (.ite (.ite (.bvar 13) (.lit 1) (.bvar 13)) (.lit 1) (.lit 0)) (.cons (.ite (.bvar 13) (.wrap .u32 (.ite (.lt (.bin .add .i64 (.wrap .i64 (.var 14)) (.wrap .i64 (.var 39))) (.wrap .i64 (.var 15))) (.bin .add .i64 (.wrap .i64 (.var 14)) (.wrap .i64 (.var 39))) (.wrap .i64 (.var 15)))) (.var 14)) (.cons (.ite (.bvar 13) (.wrap .u32 (.ite (.lt (.wrap .i64 (.wrap .u32 (.ite (.lt (.bin .add .i64 (.wrap .i64 (.var 14)) (.wrap .i64 (.var 39))) (.wrap .i64 (.var 15))) (.bin .add .i64 (.wrap .i64 (.var 14)) (.wrap .i64 (.var 39))) (.wrap .i64 (.var 15))))) (.bin .sub .i64 (.wrap .i64 (.var 15)) (.wrap .i64 (.var 49)))) (.bin .sub .i64 (.wrap .i64 (.var 15)) (.wrap .i64 (.var 49))) (.wrap .i64 (.wrap .u32 (.ite (.lt (.bin .add .i64 (.wrap .i64 (.var 14)) (.wrap .i64 (.var 39))) (.wrap .i64 (.var 15))) (.bin .add .i64 (.wrap .i64 (.var 14)) (.wrap .i64 (.var 39))) (.wrap .i64 (.var 15))))))) (.var 15)) (.cons (.ite (.ite (.bvar 16) (.lit 1) (.bvar 16)) (.lit 1) (.lit 0)) (.cons (.ite (.bvar 16) (.wrap .u32 (.ite (.lt (.bin .add .i64 (.wrap .i64 (.var 17)) (.wrap .i64 (.var 40))) (.wrap .i64 (.var 18))) (.bin .add .i64 (.wrap .i64 (.var 17)) (.wrap .i64 (.var 40))) (.wrap .i64 (.var 18)))) (.var 17)) (.cons (.ite (.bvar 16) (.wrap .u32 (.ite (.lt (.wrap .i64 (.wrap .u32 (.ite (.lt (.bin .add .i64 (.wrap .i64 (.var 17)) (.wrap .i64 (.var 40))) (.wrap .i64 (.var 18))) (.bin .add .i64 (.wrap .i64 (.var 17)) (.wrap .i64 (.var 40))) (.wrap .i64 (.var 18))))) (.bin .sub .i64 (.wrap .i64 (.var 18)) (.wrap .i64 (.var 50)))) (.bin .sub .i64 (.wrap .i64 (.var 18)) (.wrap .i64 (.var 50))) (.wrap .i64 (.wrap .u32 (.ite (.lt (.bin .add .i64 (.wrap .i64 (.var 17)) (.wrap .i64 (.var 40))) (.wrap .i64 (.var 18))) (.bin .add .i64 (.wrap .i64 (.var 17)) (.wrap .i64 (.var 40))) (.wrap .i64 (.var 18))))))) (.var 18)) (.cons (.ite (.ite (.bvar 19) (.lit 1) (.bvar 19)) (.lit 1) (.lit 0)) (.cons (.ite (.bvar 19) (.wrap .u32 (.ite (.lt (.bin .add .i64 (.wrap .i64 (.var 20)) (.wrap .i64 (.var 41))) (.wrap .i64 (.var 21))) (.bin .add .i64 (.wrap .i64 (.var 20)) (.wrap .i64 (.var 41))) (.wrap .i64 (.var 21)))) (.var 20)) (.cons (.ite (.bvar 19) (.wrap .u32 (.ite (.lt (.wrap .i64 (.wrap .u32 (.ite (.lt (.bin .add .i64 (.wrap .i64 (.var 20)) (.wrap .i64 (.var 41))) (.wrap .i64 (.var 21))) (.bin .add .i64 (.wrap .i64 (.var 20)) (.wrap .i64 (.var 41))) (.wrap .i64 (.var 21))))) (.bin .sub .i64 (.wrap .i64 (.var 21)) (.wrap .i64 (.var 51)))) (.bin .sub .i64 (.wrap .i64 (.var 21)) (.wrap .i64 (.var 51))) (.wrap .i64 (.wrap .u32 (.ite (.lt (.bin .add .i64 (.wrap .i64 (.var 20)) (.wrap .i64 (.var 41))) (.wrap .i64 (.var 21))) (.bin .add .i64 (.wrap .i64 (.var 20)) (.wrap .i64 (.var 41))) (.wrap .i64 (.var 21))))))) (.var 21)) (.cons (.ite (.ite (.bvar 22) (.lit 1) (.bvar 22)) (.lit 1) (.lit 0)) (.cons (.ite (.bvar 22) (.wrap .u32 (.ite (.lt (.bin .add .i64 (.wrap .i64 (.var 23)) (.wrap .i64 (.var 42))) (.wrap .i64 (.var 24))) (.bin .add .i64 (.wrap .i64 (.var 23)) (.wrap .i64 (.var 42))) (.wrap .i64 (.var 24)))) (.var 23)) (.cons (.ite (.bvar 22) (.wrap .u32 (.ite (.lt (.wrap .i64 (.wrap .u32 (.ite (.lt (.bin .add .i64 (.wrap .i64 (.var 23)) (.wrap .i64 (.var 42))) (.wrap .i64 (.var 24))) (.bin .add .i64 (.wrap .i64 (.var 23)) (.wrap .i64 (.var 42))) (.wrap .i64 (.var 24))))) (.bin .sub .i64 (.wrap .i64 (.var 24)) (.wrap .i64 (.var 52)))) (.bin .sub .i64 (.wrap .i64 (.var 24)) (.wrap .i64 (.var 52))) (.wrap .i64 (.wrap .u32 (.ite (.lt (.bin .add .i64 (.wrap .i64 (.var 23)) (.wrap .i64 (.var 42))) (.wrap .i64 (.var 24))) (.bin .add .i64 (.wrap .i64 (.var 23)) (.wrap .i64 (.var 42))) (.wrap .i64 (.var 24))))))) (.var 24)) (.cons (.ite (.ite (.bvar 25) (.lit 1) (.bvar 25)) (.lit 1) (.lit 0)) (.cons (.ite (.bvar 25) (.wrap .u32 (.ite (.lt (.bin .add .i64 (.wrap .i64 (.var 26)) (.wrap .i64 (.var 43))) (.wrap .i64 (.var 27))) (.bin .add .i64 (.wrap .i64 (.var 26)) (.wrap .i64 (.var 43))) (.wrap .i64 (.var 27)))) (.var 26)) (.cons (.ite (.bvar 25) (.wrap .u32 (.ite (.lt (.wrap .i64 (.wrap .u32 (.ite (.lt (.bin .add .i64 (.wrap .i64 (.var 26)) (.wrap .i64 (.var 43))) (.wrap .i64 (.var 27))) (.bin .add .i64 (.wrap .i64 (.var 26)) (.wrap .i64 (.var 43))) (.wrap .i64 (.var 27))))) (.bin .sub .i64 (.wrap .i64 (.var 27)) (.wrap .i64 (.var 53)))) (.bin .sub .i64 (.wrap .i64 (.var 27)) (.wrap .i64 (.var 53))) (.wrap .i64 (.wrap .u32 (.ite (.lt (.bin .add .i64 (.wrap .i64 (.var 26)) (.wrap .i64 (.var 43))) (.wrap .i64 (.var 27))) (.bin .add .i64 (.wrap .i64 (.var 26)) (.wrap .i64 (.var 43))) (.wrap .i64 (.var 27))))))) (.var 27)) (.cons (.ite (.ite (.bvar 28) (.lit 1) (.bvar 28)) (.lit 1) (.lit 0)) (.cons (.ite (.bvar 28) (.wrap .u32 (.ite (.lt (.bin .add .i64 (.wrap .i64 (.var 29)) (.wrap .i64 (.var 44))) (.wrap .i64 (.var 30))) (.bin .add .i64 (.wrap .i64 (.var 29)) (.wrap .i64 (.var 44))) (.wrap .i64 (.var 30)))) (.var 29)) (.cons (.ite (.bvar 28) (.wrap .u32 (.ite (.lt (.wrap .i64 (.wrap .u32 (.ite (.lt (.bin .add .i64 (.wrap .i64 (.var 29)) (.wrap .i64 (.var 44))) (.wrap .i64 (.var 30))) (.bin .add .i64 (.wrap .i64 (.var 29)) (.wrap .i64 (.var 44))) (.wrap .i64 (.var 30))))) (.bin .sub .i64 (.wrap .i64 (.var 30)) (.wrap .i64 (.var 54)))) (.bin .sub .i64 (.wrap .i64 (.var 30)) (.wrap .i64 (.var 54))) (.wrap .i64 (.wrap .u32 (.ite (.lt (.bin .add .i64 (.wrap .i64 (.var 29)) (.wrap .i64 (.var 44))) (.wrap .i64 (.var 30))) (.bin .add .i64 (.wrap .i64 (.var 29)) (.wrap .i64 (.var 44))) (.wrap .i64 (.var 30))))))) (.var 30)) (.cons (.ite (.ite (.bvar 31) (.lit 1) (.bvar 31)) (.lit 1) (.lit 0)) (.cons (.ite (.bvar 31) (.wrap .u32 (.ite (.lt (.bin .add .i64 (.wrap .i64 (.var 32)) (.wrap .i64 (.var 45))) (.wrap .i64 (.var 33))) (.bin .add .i64 (.wrap .i64 (.var 32)) (.wrap .i64 (.var 45))) (.wrap .i64 (.var 33)))) (.var 32)) (.cons (.ite (.bvar 31) (.wrap .u32 (.ite (.lt (.wrap .i64 (.wrap .u32 (.ite (.lt (.bin .add .i64 (.wrap .i64 (.var 32)) (.wrap .i64 (.var 45))) (.wrap .i64 (.var 33))) (.bin .add .i64 (.wrap .i64 (.var 32)) (.wrap .i64 (.var 45))) (.wrap .i64 (.var 33))))) (.bin .sub .i64 (.wrap .i64 (.var 33)) (.wrap .i64 (.var 55)))) (.bin .sub .i64 (.wrap .i64 (.var 33)) (.wrap .i64 (.var 55))) (.wrap .i64 (.wrap .u32 (.ite (.lt (.bin .add .i64 (.wrap .i64 (.var 32)) (.wrap .i64 (.var 45))) (.wrap .i64 (.var 33))) (.bin .add .i64 (.wrap .i64 (.var 32)) (.wrap .i64 (.var 45))) (.wrap .i64 (.var 33))))))) (.var 33)) (.cons (.ite (.ite (.bvar 34) (.lit 1) (.bvar 34)) (.lit 1) (.lit 0)) (.cons (.ite (.bvar 34) (.wrap .u32 (.ite (.lt (.bin .add .i64 (.wrap .i64 (.var 35)) (.wrap .i64 (.var 46))) (.wrap .i64 (.var 36))) (.bin .add .i64 (.wrap .i64 (.var 35)) (.wrap .i64 (.var 46))) (.wrap .i64 (.var 36)))) (.var 35)) (.cons (.ite (.bvar 34) (.wrap .u32 (.ite (.lt (.wrap .i64 (.wrap .u32 (.ite (.lt (.bin .add .i64 (.wrap .i64 (.var 35)) (.wrap .i64 (.var 46))) (.wrap .i64 (.var 36))) (.bin .add .i64 (.wrap .i64 (.var 35)) (.wrap .i64 (.var 46))) (.wrap .i64 (.var 36))))) (.bin .sub .i64 (.wrap .i64 (.var 36)) (.wrap .i64 (.var 56)))) (.bin .sub .i64 (.wrap .i64 (.var 36)) (.wrap .i64 (.var 56))) (.wrap .i64 (.wrap .u32 (.ite (.lt (.bin .add .i64 (.wrap .i64 (.var 35)) (.wrap .i64 (.var 46))) (.wrap .i64 (.var 36))) (.bin .add .i64 (.wrap .i64 (.var 35)) (.wrap .i64 (.var 46))) (.wrap .i64 (.var 36))))))) (.var 36)) .nil)))))))))))))))))))))))))))))))))
 (.both (.goal (.le (.lit 0) (.var 5)))
 (.both (.goal (.le (.var 5) (.lit 256)))
 (.ite (.not (.eq (.app (.app 162 ag1)) (.lit 0)))
 .ok
 (.ite (.eq (.app (.app 162 ag0)) (.lit 0))
 (.ite (.not (.app (.app 160 ag0)))
 (.ite (.not (.app (.app 161 ag0)))
 .ok
 (.ite (.not (.app (.app 161 ag1)))
 .bad
 (.ite (.ite (.app (.app 150 ag1)) (.ite (.ite (.not (.app (.app 150 ag0))) (.lit 1) (.lt (.app (.app 120 ag0)) (.app (.app 120 ag1)))) (.lit 1) (.lt (.app (.app 130 ag1)) (.app (.app 130 ag0)))) (.lit 0))
 .bad
 (.ite (.ite (.app (.app 151 ag1)) (.ite (.ite (.not (.app (.app 151 ag0))) (.lit 1) (.lt (.app (.app 121 ag0)) (.app (.app 121 ag1)))) (.lit 1) (.lt (.app (.app 131 ag1)) (.app (.app 131 ag0)))) (.lit 0))
 .bad
 (.ite (.ite (.app (.app 152 ag1)) (.ite (.ite (.not (.app (.app 152 ag0))) (.lit 1) (.lt (.app (.app 122 ag0)) (.app (.app 122 ag1)))) (.lit 1) (.lt (.app (.app 132 ag1)) (.app (.app 132 ag0)))) (.lit 0))
 .bad
 (.ite (.ite (.app (.app 153 ag1)) (.ite (.ite (.not (.app (.app 153 ag0))) (.lit 1) (.lt (.app (.app 123 ag0)) (.app (.app 123 ag1)))) (.lit 1) (.lt (.app (.app 133 ag1)) (.app (.app 133 ag0)))) (.lit 0))
 .bad
 (.ite (.ite (.app (.app 154 ag1)) (.ite (.ite (.not (.app (.app 154 ag0))) (.lit 1) (.lt (.app (.app 124 ag0)) (.app (.app 124 ag1)))) (.lit 1) (.lt (.app (.app 134 ag1)) (.app (.app 134 ag0)))) (.lit 0))
 .bad
 (.ite (.ite (.app (.app 155 ag1)) (.ite (.ite (.not (.app (.app 155 ag0))) (.lit 1) (.lt (.app (.app 125 ag0)) (.app (.app 125 ag1)))) (.lit 1) (.lt (.app (.app 135 ag1)) (.app (.app 135 ag0)))) (.lit 0))
 .bad
 (.ite (.ite (.app (.app 156 ag1)) (.ite (.ite (.not (.app (.app 156 ag0))) (.lit 1) (.lt (.app (.app 126 ag0)) (.app (.app 126 ag1)))) (.lit 1) (.lt (.app (.app 136 ag1)) (.app (.app 136 ag0)))) (.lit 0))
 .bad
 (.ite (.ite (.app (.app 157 ag1)) (.ite (.ite (.not (.app (.app 157 ag0))) (.lit 1) (.lt (.app (.app 127 ag0)) (.app (.app 127 ag1)))) (.lit 1) (.lt (.app (.app 137 ag1)) (.app (.app 137 ag0)))) (.lit 0))
 .bad
 (.ite (.ite (.app (.app 158 ag1)) (.ite (.ite (.not (.app (.app 158 ag0))) (.lit 1) (.lt (.app (.app 128 ag0)) (.app (.app 128 ag1)))) (.lit 1) (.lt (.app (.app 138 ag1)) (.app (.app 138 ag0)))) (.lit 0))
 .bad
 (.ite (.ite (.app (.app 159 ag1)) (.ite (.ite (.not (.app (.app 159 ag0))) (.lit 1) (.lt (.app (.app 129 ag0)) (.app (.app 129 ag1)))) (.lit 1) (.lt (.app (.app 139 ag1)) (.app (.app 139 ag0)))) (.lit 0))
 .bad
 .ok))))))))))))
 (.ite (.not (.app (.app 160 ag1)))
 .bad
 (.ite (.ite (.app (.app 140 ag1)) (.ite (.ite (.not (.app (.app 140 ag0))) (.lit 1) (.lt (.app (.app 100 ag0)) (.app (.app 100 ag1)))) (.lit 1) (.lt (.app (.app 110 ag1)) (.app (.app 110 ag0)))) (.lit 0))
 .bad
 (.ite (.ite (.app (.app 141 ag1)) (.ite (.ite (.not (.app (.app 141 ag0))) (.lit 1) (.lt (.app (.app 101 ag0)) (.app (.app 101 ag1)))) (.lit 1) (.lt (.app (.app 111 ag1)) (.app (.app 111 ag0)))) (.lit 0))
 .bad
 (.ite (.ite (.app (.app 142 ag1)) (.ite (.ite (.not (.app (.app 142 ag0))) (.lit 1) (.lt (.app (.app 102 ag0)) (.app (.app 102 ag1)))) (.lit 1) (.lt (.app (.app 112 ag1)) (.app (.app 112 ag0)))) (.lit 0))
 .bad
 (.ite (.ite (.app (.app 143 ag1)) (.ite (.ite (.not (.app (.app 143 ag0))) (.lit 1) (.lt (.app (.app 103 ag0)) (.app (.app 103 ag1)))) (.lit 1) (.lt (.app (.app 113 ag1)) (.app (.app 113 ag0)))) (.lit 0))
 .bad
 (.ite (.ite (.app (.app 144 ag1)) (.ite (.ite (.not (.app (.app 144 ag0))) (.lit 1) (.lt (.app (.app 104 ag0)) (.app (.app 104 ag1)))) (.lit 1) (.lt (.app (.app 114 ag1)) (.app (.app 114 ag0)))) (.lit 0))
 .bad
 (.ite (.ite (.app (.app 145 ag1)) (.ite (.ite (.not (.app (.app 145 ag0))) (.lit 1) (.lt (.app (.app 105 ag0)) (.app (.app 105 ag1)))) (.lit 1) (.lt (.app (.app 115 ag1)) (.app (.app 115 ag0)))) (.lit 0))
 .bad
 (.ite (.ite (.app (.app 146 ag1)) (.ite (.ite (.not (.app (.app 146 ag0))) (.lit 1) (.lt (.app (.app 106 ag0)) (.app (.app 106 ag1)))) (.lit 1) (.lt (.app (.app 116 ag1)) (.app (.app 116 ag0)))) (.lit 0))
 .bad
 (.ite (.ite (.app (.app 147 ag1)) (.ite (.ite (.not (.app (.app 147 ag0))) (.lit 1) (.lt (.app (.app 107 ag0)) (.app (.app 107 ag1)))) (.lit 1) (.lt (.app (.app 117 ag1)) (.app (.app 117 ag0)))) (.lit 0))
 .bad
 (.ite (.ite (.app (.app 148 ag1)) (.ite (.ite (.not (.app (.app 148 ag0))) (.lit 1) (.lt (.app (.app 108 ag0)) (.app (.app 108 ag1)))) (.lit 1) (.lt (.app (.app 118 ag1)) (.app (.app 118 ag0)))) (.lit 0))
 .bad
 (.ite (.ite (.app (.app 149 ag1)) (.ite (.ite (.not (.app (.app 149 ag0))) (.lit 1) (.lt (.app (.app 109 ag0)) (.app (.app 109 ag1)))) (.lit 1) (.lt (.app (.app 119 ag1)) (.app (.app 119 ag0)))) (.lit 0))
 .bad
 (.ite (.not (.app (.app 161 ag0)))
 .ok
 (.ite (.not (.app (.app 161 ag1)))
 .bad
 (.ite (.ite (.app (.app 150 ag1)) (.ite (.ite (.not (.app (.app 150 ag0))) (.lit 1) (.lt (.app (.app 120 ag0)) (.app (.app 120 ag1)))) (.lit 1) (.lt (.app (.app 130 ag1)) (.app (.app 130 ag0)))) (.lit 0))
 .bad
 (.ite (.ite (.app (.app 151 ag1)) (.ite (.ite (.not (.app (.app 151 ag0))) (.lit 1) (.lt (.app (.app 121 ag0)) (.app (.app 121 ag1)))) (.lit 1) (.lt (.app (.app 131 ag1)) (.app (.app 131 ag0)))) (.lit 0))
 .bad
 (.ite (.ite (.app (.app 152 ag1)) (.ite (.ite (.not (.app (.app 152 ag0))) (.lit 1) (.lt (.app (.app 122 ag0)) (.app (.app 122 ag1)))) (.lit 1) (.lt (.app (.app 132 ag1)) (.app (.app 132 ag0)))) (.lit 0))
 .bad
 (.ite (.ite (.app (.app 153 ag1)) (.ite (.ite (.not (.app (.app 153 ag0))) (.lit 1) (.lt (.app (.app 123 ag0)) (.app (.app 123 ag1)))) (.lit 1) (.lt (.app (.app 133 ag1)) (.app (.app 133 ag0)))) (.lit 0))
 .bad
 (.ite (.ite (.app (.app 154 ag1)) (.ite (.ite (.not (.app (.app 154 ag0))) (.lit 1) (.lt (.app (.app 124 ag0)) (.app (.app 124 ag1)))) (.lit 1) (.lt (.app (.app 134 ag1)) (.app (.app 134 ag0)))) (.lit 0))
 .bad
 (.ite (.ite (.app (.app 155 ag1)) (.ite (.ite (.not (.app (.app 155 ag0))) (.lit 1) (.lt (.app (.app 125 ag0)) (.app (.app 125 ag1)))) (.lit 1) (.lt (.app (.app 135 ag1)) (.app (.app 135 ag0)))) (.lit 0))
 .bad
 (.ite (.ite (.app (.app 156 ag1)) (.ite (.ite (.not (.app (.app 156 ag0))) (.lit 1) (.lt (.app (.app 126 ag0)) (.app (.app 126 ag1)))) (.lit 1) (.lt (.app (.app 136 ag1)) (.app (.app 136 ag0)))) (.lit 0))
 .bad
 (.ite (.ite (.app (.app 157 ag1)) (.ite (.ite (.not (.app (.app 157 ag0))) (.lit 1) (.lt (.app (.app 127 ag0)) (.app (.app 127 ag1)))) (.lit 1) (.lt (.app (.app 137 ag1)) (.app (.app 137 ag0)))) (.lit 0))
 .bad
 (.ite (.ite (.app (.app 158 ag1)) (.ite (.ite (.not (.app (.app 158 ag0))) (.lit 1) (.lt (.app (.app 128 ag0)) (.app (.app 128 ag1)))) (.lit 1) (.lt (.app (.app 138 ag1)) (.app (.app 138 ag0)))) (.lit 0))
 .bad
 (.ite (.ite (.app (.app 159 ag1)) (.ite (.ite (.not (.app (.app 159 ag0))) (.lit 1) (.lt (.app (.app 129 ag0)) (.app (.app 129 ag1)))) (.lit 1) (.lt (.app (.app 139 ag1)) (.app (.app 139 ag0)))) (.lit 0))
 .bad
 .ok))))))))))))))))))))))))
 .bad))))))))
 .ok)

set_option maxHeartbeats 8000000 in
theorem ev : finT (gam shs) (evFn Try.prog CL 40 30 6 (symA 0 shs) [] []) = asked := by kernel_rfl
theorem den_ag1 (ρ : Env) : ag1.denL ρ = Go.Ck.argE.denL ρ := rfl
set_option maxHeartbeats 8000000 in
theorem cuts {ρ : Env} (hf : ρ.Fits (gam shs)) (hr : Go.Ck.rightL ((Go.Ck.nameL 7 Go.Ck.regsK).denL ρ)) :
    (∀ j : Int, 0 ≤ j → j < 10 → Go.Ck.Cut (Go.Ck.decR (ag0.denL ρ) j) (Go.Ck.decR (ag1.denL ρ) j)) ∧ Go.Ck.rightL ((ag0.denL ρ).drop 6) := by
  have u : ∀ j, (gam shs)[j]? = some (0, 4294967295) → 0 ≤ ρ.i j ∧ ρ.i j ≤ 4294967295 := fun j h => hf j _ _ h
  have s : ∀ b : Bool, (if b = true then (1 : Int) else 0) = 0 ↔ b = false := fun b => by cases b <;> simp
  simp only [Go.Ck.regsK, Go.Ck.rngK, List.replicate, List.flatten, List.append, Go.Ck.nameL, E.denL, E.den, Go.Ck.rightL] at hr
  obtain ⟨a0, a1, a2, a3, a4, a5, a6, a7, a8, a9, _⟩ := hr
  have c0 := cut_ok (ρ := ρ) (s := 7) (l := 8) (g := 9) (u := 37) (d := 47) (u 8 rfl).1 (u 9 rfl).2 a0.1 (u 37 rfl) (u 47 rfl) (fun h => a0.2 ((s _).2 h))
  have c1 := cut_ok (ρ := ρ) (s := 10) (l := 11) (g := 12) (u := 38) (d := 48) (u 11 rfl).1 (u 12 rfl).2 a1.1 (u 38 rfl) (u 48 rfl) (fun h => a1.2 ((s _).2 h))
  have c2 := cut_ok (ρ := ρ) (s := 13) (l := 14) (g := 15) (u := 39) (d := 49) (u 14 rfl).1 (u 15 rfl).2 a2.1 (u 39 rfl) (u 49 rfl) (fun h => a2.2 ((s _).2 h))
  have c3 := cut_ok (ρ := ρ) (s := 16) (l := 17) (g := 18) (u := 40) (d := 50) (u 17 rfl).1 (u 18 rfl).2 a3.1 (u 40 rfl) (u 50 rfl) (fun h => a3.2 ((s _).2 h))
  have c4 := cut_ok (ρ := ρ) (s := 19) (l := 20) (g := 21) (u := 41) (d := 51) (u 20 rfl).1 (u 21 rfl).2 a4.1 (u 41 rfl) (u 51 rfl) (fun h => a4.2 ((s _).2 h))
  have c5 := cut_ok (ρ := ρ) (s := 22) (l := 23) (g := 24) (u := 42) (d := 52) (u 23 rfl).1 (u 24 rfl).2 a5.1 (u 42 rfl) (u 52 rfl) (fun h => a5.2 ((s _).2 h))
  have c6 := cut_ok (ρ := ρ) (s := 25) (l := 26) (g := 27) (u := 43) (d := 53) (u 26 rfl).1 (u 27 rfl).2 a6.1 (u 43 rfl) (u 53 rfl) (fun h => a6.2 ((s _).2 h))
  have c7 := cut_ok (ρ := ρ) (s := 28) (l := 29) (g := 30) (u := 44) (d := 54) (u 29 rfl).1 (u 30 rfl).2 a7.1 (u 44 rfl) (u 54 rfl) (fun h => a7.2 ((s _).2 h))
  have c8 := cut_ok (ρ := ρ) (s := 31) (l := 32) (g := 33) (u := 45) (d := 55) (u 32 rfl).1 (u 33 rfl).2 a8.1 (u 45 rfl) (u 55 rfl) (fun h => a8.2 ((s _).2 h))
  have c9 := cut_ok (ρ := ρ) (s := 34) (l := 35) (g := 36) (u := 46) (d := 56) (u 35 rfl).1 (u 36 rfl).2 a9.1 (u 46 rfl) (u 56 rfl) (fun h => a9.2 ((s _).2 h))
  refine ⟨fun j h0 h1 => ?_, ⟨c0.2, c1.2, c2.2, c3.2, c4.2, c5.2, c6.2, c7.2, c8.2, c9.2, trivial⟩⟩
  have h : j = 0 ∨ j = 1 ∨ j = 2 ∨ j = 3 ∨ j = 4 ∨ j = 5 ∨ j = 6 ∨ j = 7 ∨ j = 8 ∨ j = 9 := by omega
  rcases h with rfl | rfl | rfl | rfl | rfl | rfl | rfl | rfl | rfl | rfl
  · exact c0.1
  · exact c1.1
  · exact c2.1
  · exact c3.1
  · exact c4.1
  · exact c5.1
  · exact c6.1
  · exact c7.1
  · exact c8.1
  · exact c9.1
set_option maxHeartbeats 8000000 in
theorem holds (ρ : Env) (hI : ρ.I = CI) (hf : ρ.Fits (gam shs)) : asked.Holds ρ := by
  have h4 := hf 4 0 4294967295 rfl
  have ia : ∀ (f : Nat), 100 ≤ f → f < 200 → ∀ (a : E), (E.app f a).den ρ = Go.Ck.behI f (a.denL ρ) := fun f h0 h1 a => app_beh hI h0 h1 _
  have ib : ∀ (f : Nat), 100 ≤ f → f < 200 → ∀ (a : E), (E.app f a).denB ρ = (Go.Ck.behI f (a.denL ρ) != 0) := fun f h0 h1 a => by
    have : (E.app f a).denB ρ = (appI ρ f (a.denL ρ) != 0) := rfl
    rw [this, app_beh hI h0 h1]
  have im : (E.app 300 (.cons (.var 0) (.cons (.var 1) (.cons (.var 2) (.cons (.var 3) (.cons (.var 4) .nil)))))).denB ρ = true ↔ Go.Ck.MayP (ρ.i 0) (ρ.i 1) (ρ.i 2) (ρ.i 3) (ρ.i 4) := den_may ρ hI (.var 0) (.var 1) (.var 2) (.var 3) (.var 4)
  have ir : ∀ (a : E), (E.app 301 a).denB ρ = true ↔ Go.Ck.rightL (a.denL ρ) := fun a => by
    have : (E.app 301 a).denB ρ = (clampF 301 (CI 301 (a.denL ρ)) != 0) := by simp only [E.denB, appI, hI]
    rw [this, den_right]
  simp only [asked, NT.Holds, N.denP, N.den, im, ir, andIte, orIte]
  refine ⟨fun hg => ⟨fun _ => trivial, fun hr => ?_⟩, fun _ => trivial⟩
  have hM : Go.Ck.MayP (ρ.i 0) (ρ.i 1) (ρ.i 2) (ρ.i 3) (ρ.i 4) := Classical.byContradiction fun h => hg (.inl (.inl h))
  have hctx : 0 ≤ ρ.i 5 ∧ ρ.i 5 ≤ 256 := ⟨Int.not_lt.1 fun h => hg (.inl (.inr h)), Int.not_lt.1 fun h => hg (.inr h)⟩
  have hR := Classical.byContradiction fun h => hr (.inl h)
  clear hg hr
  obtain ⟨hc, hr0⟩ := cuts hf hR
  have mono : (Go.Ck.behL (ag1.denL ρ)).err = 0 → (Go.Ck.behL (ag0.denL ρ)).err = 0 ∧ Go.Ck.WiO (Go.Ck.decR (ag0.denL ρ)) (Go.Ck.decR (ag1.denL ρ)) (Go.Ck.behL (ag0.denL ρ)).next (Go.Ck.behL (ag1.denL ρ)).next ∧ Go.Ck.WiO (Go.Ck.decR (ag0.denL ρ)) (Go.Ck.decR (ag1.denL ρ)) (Go.Ck.behL (ag0.denL ρ)).jumped (Go.Ck.behL (ag1.denL ρ)).jumped :=
    fun h => Go.Ck.beh_mono (ctx := ρ.i 5) hM h4 hc h
  simp (discharger := decide) only [ia, ib, bi_100, bi_101, bi_102, bi_103, bi_104, bi_105, bi_106, bi_107, bi_108, bi_109, bi_110, bi_111, bi_112, bi_113, bi_114, bi_115, bi_116, bi_117, bi_118, bi_119, bi_120, bi_121, bi_122, bi_123, bi_124, bi_125, bi_126, bi_127, bi_128, bi_129, bi_130, bi_131, bi_132, bi_133, bi_134, bi_135, bi_136, bi_137, bi_138, bi_139, bi_140, bi_141, bi_142, bi_143, bi_144, bi_145, bi_146, bi_147, bi_148, bi_149, bi_150, bi_151, bi_152, bi_153, bi_154, bi_155, bi_156, bi_157, bi_158, bi_159, bi_160, bi_161, bi_162, one_ite]
  refine ⟨hctx.1, hctx.2, hr0, hctx.1, hctx.2, fun _ => trivial, fun he => ?_⟩
  obtain ⟨m0, m1, m2⟩ := mono (Classical.not_not.1 he)
  have w1 := wi_some m1
  have w2 := wi_some m2
  clear mono he hc hr0 ia ib im ir
  generalize Go.Ck.behL (ag0.denL ρ) = B0 at *
  generalize Go.Ck.behL (ag1.denL ρ) = B1 at *
  generalize Go.Ck.decR (ag0.denL ρ) = r0 at *
  generalize Go.Ck.decR (ag1.denL ρ) = r1 at *
  have k1 := fun (h : B0.next.isSome = true) (j : Int) h0 h1 => ask ((w1 h).2 j h0 h1)
  have k2 := fun (h : B0.jumped.isSome = true) (j : Int) h0 h1 => ask ((w2 h).2 j h0 h1)
  refine ⟨fun _ => ?_, fun h => absurd m0 h⟩
  refine ⟨fun _ => ?_, fun hN => ?_⟩
  · skip
    refine ⟨fun _ => trivial, fun hJ => ?_⟩
    have hJ := Classical.not_not.1 hJ
    refine ⟨fun h => h (w2 hJ).1, fun _ => ?_⟩
    refine ⟨k2 hJ 0 (by decide) (by decide), fun _ => ?_⟩
    refine ⟨k2 hJ 1 (by decide) (by decide), fun _ => ?_⟩
    refine ⟨k2 hJ 2 (by decide) (by decide), fun _ => ?_⟩
    refine ⟨k2 hJ 3 (by decide) (by decide), fun _ => ?_⟩
    refine ⟨k2 hJ 4 (by decide) (by decide), fun _ => ?_⟩
    refine ⟨k2 hJ 5 (by decide) (by decide), fun _ => ?_⟩
    refine ⟨k2 hJ 6 (by decide) (by decide), fun _ => ?_⟩
    refine ⟨k2 hJ 7 (by decide) (by decide), fun _ => ?_⟩
    refine ⟨k2 hJ 8 (by decide) (by decide), fun _ => ?_⟩
    refine ⟨k2 hJ 9 (by decide) (by decide), fun _ => ?_⟩
    trivial
  · have hN := Classical.not_not.1 hN
    refine ⟨fun h => h (w1 hN).1, fun _ => ?_⟩
    refine ⟨k1 hN 0 (by decide) (by decide), fun _ => ?_⟩
    refine ⟨k1 hN 1 (by decide) (by decide), fun _ => ?_⟩
    refine ⟨k1 hN 2 (by decide) (by decide), fun _ => ?_⟩
    refine ⟨k1 hN 3 (by decide) (by decide), fun _ => ?_⟩
    refine ⟨k1 hN 4 (by decide) (by decide), fun _ => ?_⟩
    refine ⟨k1 hN 5 (by decide) (by decide), fun _ => ?_⟩
    refine ⟨k1 hN 6 (by decide) (by decide), fun _ => ?_⟩
    refine ⟨k1 hN 7 (by decide) (by decide), fun _ => ?_⟩
    refine ⟨k1 hN 8 (by decide) (by decide), fun _ => ?_⟩
    refine ⟨k1 hN 9 (by decide) (by decide), fun _ => ?_⟩
    refine ⟨fun _ => trivial, fun hJ => ?_⟩
    have hJ := Classical.not_not.1 hJ
    refine ⟨fun h => h (w2 hJ).1, fun _ => ?_⟩
    refine ⟨k2 hJ 0 (by decide) (by decide), fun _ => ?_⟩
    refine ⟨k2 hJ 1 (by decide) (by decide), fun _ => ?_⟩
    refine ⟨k2 hJ 2 (by decide) (by decide), fun _ => ?_⟩
    refine ⟨k2 hJ 3 (by decide) (by decide), fun _ => ?_⟩
    refine ⟨k2 hJ 4 (by decide) (by decide), fun _ => ?_⟩
    refine ⟨k2 hJ 5 (by decide) (by decide), fun _ => ?_⟩
    refine ⟨k2 hJ 6 (by decide) (by decide), fun _ => ?_⟩
    refine ⟨k2 hJ 7 (by decide) (by decide), fun _ => ?_⟩
    refine ⟨k2 hJ 8 (by decide) (by decide), fun _ => ?_⟩
    refine ⟨k2 hJ 9 (by decide) (by decide), fun _ => ?_⟩
    trivial

theorem run {vals : Array Value} {all : List Value} (hv : OkAs shs vals.toList all) (W : World) : Calls Try.prog 6 vals W fun e W' => e = .returned (.bool true) ∧ Below W.heap.size W W' :=
  law_true (l := shs) (C := CL) (I := CI) CL_ok ev holds hv W
set_option maxHeartbeats 1000000 in
theorem lifted (os : Os) (started : os.Started) (H : Type) (enc : TypeId × Value → H) :
    ReturnsInHanded {} Try.checked os 6 .any (Rows.checkWithinSpec.pre6 enc Try.prog Try.f6 Rows.checkWithinRow.domain false) (Rows.checkWithinSpec.post enc Try.prog Try.f6 false true false false) := by
  refine returnsInHanded_of_change (C := Try.checked) own started (by kernel_rfl) Try.func6
    (ChangeSpec.witness6 (enc := enc) (C := Try.checked) false ⟨#[], #[.agg #[.int .i64 0, .int .i64 0, .int .i64 0, .int .i64 0, .int .u32 0], .int .i64 0, .agg #[.bool false, .bool false, .int .u32 0, .int .u32 0, .bool false, .int .u32 0, .int .u32 0, .bool false, .int .u32 0, .int .u32 0, .bool false, .int .u32 0, .int .u32 0, .bool false, .int .u32 0, .int .u32 0, .bool false, .int .u32 0, .int .u32 0, .bool false, .int .u32 0, .int .u32 0, .bool false, .int .u32 0, .int .u32 0, .bool false, .int .u32 0, .int .u32 0, .bool false, .int .u32 0, .int .u32 0, .int .u32 0, .int .u32 0, .int .u32 0, .int .u32 0, .int .u32 0, .int .u32 0, .int .u32 0, .int .u32 0, .int .u32 0, .int .u32 0, .int .u32 0, .int .u32 0, .int .u32 0, .int .u32 0, .int .u32 0, .int .u32 0, .int .u32 0, .int .u32 0, .int .u32 0, .int .u32 0]], []⟩ 8 (by kernel_rfl) (by kernel_rfl) (by kernel_rfl) (by kernel_rfl)) ?_
  intro W base args ds gs before hval0 hW hcnd _
  have hval : ∀ (j : Nat) t v, Try.f6.params[j]? = some t → args[j]? = some v → Value.okWide Try.prog W .any base t v := hval0
  have hW' := hW
  obtain ⟨p, q, hA0, hV, rfl, hfz, hnd⟩ := hW
  have hA : DataW.TrodAll enc Try.prog W 0 (fun _ => true) true Try.f6.params.toList args.toList ds p := hA0
  rw [Try.params6] at hA hval
  obtain ⟨v0, vs0, d0, ds0, p0, q0, hargs, rfl, rfl, h0, r0⟩ := trodAll_cons hA
  obtain ⟨v1, vs1, d1, ds1, p1, q1, rfl, rfl, rfl, h1, r1⟩ := trodAll_cons r0
  obtain ⟨v2, vs2, d2, ds2, p2, q2, rfl, rfl, rfl, h2, r2⟩ := trodAll_cons r1
  obtain ⟨rfl, rfl, rfl⟩ := trodAll_nil r2
  obtain rfl : args = #[v0, v1, v2] := by cases args; simp_all
  obtain ⟨rfl, rfl⟩ := trodVars_none hV
  have lt0 : ∀ x ∈ p0, x.block < W.heap.size := by obtain ⟨m, hm⟩ := h0; exact DataW.trod_lt m _ _ _ hm
  obtain ⟨c0, o0⟩ := shT_okA (s := .row [some .i64, some .i64, some .i64, some .i64, some .u32]) (by kernel_rfl) (hval 0 33 v0 rfl rfl)
  have lt1 : ∀ x ∈ p1, x.block < W.heap.size := by obtain ⟨m, hm⟩ := h1; exact DataW.trod_lt m _ _ _ hm
  obtain ⟨c1, o1⟩ := shT_okA (s := .one (some .i64)) (by kernel_rfl) (hval 1 3 v1 rfl rfl)
  have lt2 : ∀ x ∈ p2, x.block < W.heap.size := by obtain ⟨m, hm⟩ := h2; exact DataW.trod_lt m _ _ _ hm
  obtain ⟨c2, o2⟩ := shT_okA (s := .row (Go.Ck.knownK ++ (List.replicate 10 (some .u32) ++ List.replicate 10 (some .u32)))) (by kernel_rfl) (hval 2 49 v2 rfl rfl)
  refine (run (vals := #[v0, v1, v2]) (all := (c0 ++ (c1 ++ (c2 ++ [])))) ⟨v0, _, c0, _, rfl, rfl, o0, v1, _, c1, _, rfl, rfl, o1, v2, _, c2, _, rfl, rfl, o2, rfl, rfl⟩ W).mono fun e W' ⟨he, bel⟩ => ?_
  subst he
  exact ⟨_, rfl, _, _, _, [], _, [], hW', trodAll_mk1 (shut_bool Try.underlying4 _), (trodAll_cons_mk (Below.trod laidOut (by kernel_rfl) (of_decide_eq_true (by kernel_rfl)) h0 bel lt0) (trodAll_cons_mk (Below.trod laidOut (by kernel_rfl) (of_decide_eq_true (by kernel_rfl)) h1 bel lt1) (trodAll_cons_mk (Below.trod laidOut (by kernel_rfl) (of_decide_eq_true (by kernel_rfl)) h2 bel lt2) trodAll_mk0))), rfl, bel.frame _, fun h => by cases h⟩

theorem over : Rows.checkWithinRow.holds Try.pinned (OpenSpec.ofChange Rows.checkWithinSpec) :=
  OpenClaim.holds_of_wide 6 Try.f6 rfl rfl rfl rfl rfl rfl rfl ⟨rfl, rfl, rfl, rfl, rfl⟩ rfl rfl rfl rfl rfl (by kernel_rfl) Try.func6 (by kernel_rfl)
    (of_decide_eq_true (by kernel_rfl)) (by unfold Func.isWrapper; first | (rw [if_pos (by decide +kernel)]; kernel_rfl) | (rw [if_neg (by decide +kernel)]; exact ⟨rfl, rfl⟩))
    (fun os started H enc _ => lifted os started H enc)
end Go.Proofs.Ytpamdmikdnoplaa.CheckWithin
namespace Go.Proofs.Ytpamdmikdnoplaa
theorem CheckWithinProved : Rows.CheckWithinSaid := CheckWithin.over
#print axioms CheckWithinProved
end Go.Proofs.Ytpamdmikdnoplaa
