/- Texts' order: '>' and '<=' of texts, told by the one order. -/
import Derived.Test.YtpmjnggkhjjiaaaWWords
namespace Go.Proofs.Ytpmjnggkhjjiaaa.A
open Go.RowKit

theorem less_not : ∀ (a b : List UInt8), (!(Op.bytesLess a b || a == b)) = Op.bytesLess b a
  | [], [] => rfl
  | [], y :: b => by simp [Op.bytesLess]
  | x :: a, [] => by simp [Op.bytesLess]
  | x :: a, y :: b => by
    by_cases h1 : x < y
    · have h2 : ¬ y < x := by rw [UInt8.lt_iff_toNat_lt] at *; omega
      have h3 : ¬ y = x := by intro h; subst h; rw [UInt8.lt_iff_toNat_lt] at h1; omega
      simp [Op.bytesLess, h1, h2, h3]
    · by_cases h2 : x = y
      · subst h2
        have ih := less_not a b
        simpa [Op.bytesLess, h1] using ih
      · have h3 : y < x := by
          rw [UInt8.lt_iff_toNat_lt] at *
          have : x.toNat ≠ y.toNat := fun e => h2 (UInt8.toNat_inj.1 e)
          omega
        simp [Op.bytesLess, h1, h2, h3]
theorem str_gtr (t : TypeId) (a b : ByteArray) : binOp .gtr t (.string a) (.string b) = pure (.bool (Op.bytesLess b.toList a.toList)) := by
  have : binOp .gtr t (.string a) (.string b) = pure (.bool !(Op.bytesLess a.toList b.toList || a.toList == b.toList)) := by simp [binOp, Op.stringOp]
  rw [this, less_not]
theorem str_leq (t : TypeId) (a b : ByteArray) : binOp .leq t (.string a) (.string b) = pure (.bool !(Op.bytesLess b.toList a.toList)) := by
  have : binOp .leq t (.string a) (.string b) = pure (.bool (Op.bytesLess a.toList b.toList || a.toList == b.toList)) := by simp [binOp, Op.stringOp]
  rw [this, ← less_not a.toList b.toList, Bool.not_not]
theorem readsRow_len {α : Type} {R : α → List Value → Prop} {size : Nat} {w : World} {A : Option Addr} {n m : Nat} {ps : List α} (e : n = m) (h : Go.Proofs.YtpmjnggkhjjiaaaW.PrintWords.ReadsRow R size w A n ps) : Go.Proofs.YtpmjnggkhjjiaaaW.PrintWords.ReadsRow R size w A m ps := e ▸ h
end Go.Proofs.Ytpmjnggkhjjiaaa.A
