/- Layer 12: the number of ones. -/
import Derived.Test.YthijmjglpcljcaaB12Def
namespace Go.Proofs.Ythijmjglpcljcaa.Sy
open Go Go.RowKit
set_option linter.unusedVariables false
set_option linter.unusedSimpArgs false
set_option maxRecDepth 10000
set_option maxHeartbeats 4000000
/-- The sizes that there may be. -/
def sizeB (n : Int) : Bool := decide (n ∈ ([8, 16, 32, 64, 128, 256, 512, 1024, 2048, 4096] : List Int))
def and64 (a b : Int) : Int := IntKind.u64.wrap ((BitVec.ofInt 64 a &&& BitVec.ofInt 64 b).toNat : Int)
def ones1 (n : Int) : Int := IntKind.u64.wrap (and64 (n.fdiv (2 ^ min 1 64)) 6148914691236517205 + and64 n 6148914691236517205)
def ones2 (n : Int) : Int := IntKind.u64.wrap (and64 (n.fdiv (2 ^ min 2 64)) 3689348814741910323 + and64 n 3689348814741910323)
def ones3 (n : Int) : Int := and64 (IntKind.u64.wrap (n.fdiv (2 ^ min 4 64) + n)) 1085102592571150095
def ones4 (n : Int) : Int := IntKind.u64.wrap (n + n.fdiv (2 ^ min 8 64))
def ones5 (n : Int) : Int := IntKind.u64.wrap (n + n.fdiv (2 ^ min 16 64))
def ones6 (n : Int) : Int := IntKind.u64.wrap (n + n.fdiv (2 ^ min 32 64))
def ones7 (n : Int) : Int := IntKind.i64.wrap ((BitVec.ofInt 64 (IntKind.i64.wrap n) &&& BitVec.ofInt 64 127).toNat : Int)
def onesI (n : Int) : Int := ones7 (ones6 (ones5 (ones4 (ones3 (ones2 (ones1 n))))))
theorem bits64 : IntKind.u64.bits = 64 := rfl
theorem bits64' : IntKind.i64.bits = 64 := rfl
theorem ones64_call (n : Int) : CallOk Try.prog 51 [.val (.int .u64 n)] [] (.val (.int .i64 (onesI n))) [] := by
  refine .of_exec Try.func51 rfl (enters_51) rfl rfl (Nat.le_of_ble_eq_true rfl) (fun n _ => rfl) ?_
  simp
  exact .plain (by simp) (by simp [onesI, ones1, ones2, ones3, ones4, ones5, ones6, ones7, and64, bits64, bits64'])
theorem ones_call (n : Int) : CallOk Try.prog 44 [.val (.int .u64 n)] [] (.val (.int .i64 (onesI n))) [] := by
  refine .of_exec Try.func44 rfl (enters_44) rfl rfl (Nat.le_of_ble_eq_true rfl) (fun n _ => rfl) ?_
  simp
  refine .plain (ones64_call n) (by simp) (by simp) ?_
  simp
  exact .plain (by simp) (by simp)
theorem ones_size : ∀ n : Fin 4097, 8 ≤ n.val → decide (onesI n.val = 1) = sizeB n.val := by decide +kernel
end Go.Proofs.Ythijmjglpcljcaa.Sy
