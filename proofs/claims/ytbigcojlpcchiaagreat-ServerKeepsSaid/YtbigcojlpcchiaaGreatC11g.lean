/- Layer 11: Answer and Read. -/
import Derived.Test.YtbigcojlpcchiaaGreatC11m
import Derived.Test.YtbigcojlpcchiaaGreatC11f
namespace Go.Proofs.YtbigcojlpcchiaaGreat.Sy
open Go Go.RowKit
set_option linter.unusedVariables false
set_option linter.unusedSimpArgs false
set_option maxRecDepth 10000
set_option maxHeartbeats 4000000
theorem may_facts {k st m r : Int} {cs : List ByteArray} (h : mayA k st cs m r = true) : 0 ≤ k ∧ k ≤ 4 ∧ (k = 1 ∨ st = 0) ∧ (k = 2 ∨ cs = []) ∧ (k = 3 ∨ k = 4 ∨ m = 0) ∧ (k = 4 ∨ r = 0) ∧ 0 ≤ st ∧ st ≤ 2 ∧ cs.length ≤ 200 ∧ (∀ x ∈ cs, x.size = 0 ∨ x.size = 40) ∧ 0 ≤ m ∧ m ≤ 2147483647 ∧ 0 ≤ r ∧ r ≤ 2147483647 := by
  unfold mayA emptyA numB at h
  simp only [Bool.and_eq_true, decide_eq_true_eq] at h
  obtain ⟨⟨h1, h2, h3, h4, h5⟩, h6, h7, h8, h9, ⟨h10, h11⟩, h12, h13⟩ := h
  refine ⟨by omega, by omega, h2, h3, h4, h5, h6, h7, h8, fun x hx => ?_, h10, h11, h12, h13⟩
  have := List.all_eq_true.1 h9 x hx
  simp only [cellB, Bool.or_eq_true, decide_eq_true_eq] at this
  omega
def ansA (k st : Int) (cs : List ByteArray) (m r : Int) : ByteArray × Int := if mayA k st cs m r = true then (catB [(numE k).1, (numE st).1, (listE cs).1, (numE m).1, (numE r).1], 0) else (⟨#[]⟩, 1)
theorem numE_of {n : Int} (h0 : 0 ≤ n) (h : n ≤ 2147483647) : (numE n).1 = numS n := by unfold numE; rw [if_neg (by omega)]
theorem Answer_call {k st m r : Int} {cs : List ByteArray} (hk : isI64 k) (hst : isI64 st) (hm : isI64 m) (hr : isI64 r) (hc : cs.length ≤ 4294967296) : CallOk Tryz.prog 46 [resP k st cs m r] [] (.tup [.val (.string (ansA k st cs m r).1), eN (ansA k st cs m r).2]) [] := by
  refine .of_exec Tryz.func46 rfl (enters_46) rfl rfl (Nat.le_of_ble_eq_true rfl) (fun n _ => rfl) ?_
  simp
  refine .plain (may_call hc) (by simp) (by simp) ?_
  cases c : mayA k st cs m r with
  | false =>
    have e : ansA k st cs m r = (⟨#[]⟩, 1) := if_neg (by rw [c]; simp)
    simp
    exact .plain (by simp) (by simp [e])
  | true =>
    obtain ⟨f1, f2, _, _, _, _, f3, f4, f5, f6, f7, f8, f9, f10⟩ := may_facts c
    have e : ansA k st cs m r = (catB [(numE k).1, (numE st).1, (listE cs).1, (numE m).1, (numE r).1], 0) := if_pos c
    have e1 := numE_of f1 (by omega)
    have e2 := numE_of f3 (by omega)
    have e3 := numE_of f7 f8
    have e4 := numE_of f9 f10
    have m1 : cs.length ≤ maxLen := by unfold maxLen; omega
    have m2 : ∀ x ∈ cs, x.size ≤ maxLen := fun x hx => by unfold maxLen; rcases f6 x hx with h | h <;> omega
    have hw := whole_call (l := [(numE k).1, (numE st).1, (listE cs).1, (numE m).1, (numE r).1]) (by simp) (by simp; decide) (by rw [e1]; simp [numS_size]) (by
      have h1 := listE_size cs
      have h3 : (numE k).1.size = 4 := by rw [e1, numS_size]
      have h4 : (numE st).1.size = 4 := by rw [e2, numS_size]
      have h5 : (numE m).1.size = 4 := by rw [e3, numS_size]
      have h6 : (numE r).1.size = 4 := by rw [e4, numS_size]
      simp only [sumS]; omega)
    have m5 : 5 ≤ maxLen := by decide
    simp
    refine .plain (number_call hk) (by simp) (by simp) ?_
    simp
    refine .plain (number_call hst) (by simp) (by simp) ?_
    simp
    refine .plain (list_call m1 m2) (by simp) (by simp) ?_
    simp
    refine .plain (number_call hm) (by simp) (by simp) ?_
    simp
    refine .plain (number_call hr) (by simp) (by simp) ?_
    simp [m5]
    refine callT.own [232] [] hw (by simp [rowsV]) (by simp) (by simp) (by simp) (by simp) (by simp) (by simp) (by simp) (by simp) (by simp) ?_
    simp
    refine ⟨rfl, ?_⟩
    exact .plain (by simp) (by simp [e])
def rdE (s : ByteArray) : Int × Int × Int := takeN s 0 (newE s)
def rdS (s : ByteArray) : Int × Int × Int := takeN s (rdE s).2.1 (rdE s).2.2
def rdC (s : ByteArray) : List ByteArray × Int × Int := takeL s (rdS s).2.1 (rdS s).2.2
def rdM (s : ByteArray) : Int × Int × Int := takeN s (rdC s).2.1 (rdC s).2.2
def rdR (s : ByteArray) : Int × Int × Int := takeN s (rdM s).2.1 (rdM s).2.2
def rdX (s : ByteArray) : Int := endE s (rdR s).2.1 (rdR s).2.2 (mayA (rdE s).1 (rdS s).1 (rdC s).1 (rdM s).1 (rdR s).1)
structure RespV where
  k : Int
  st : Int
  cs : List ByteArray
  m : Int
  r : Int
  e : Int
/-- What is read of bytes: a response, and an error, with which there is none. -/
def readA (s : ByteArray) : RespV := if rdX s = 0 then ⟨(rdE s).1, (rdS s).1, (rdC s).1, (rdM s).1, (rdR s).1, 0⟩ else ⟨0, 0, [], 0, 0, rdX s⟩
end Go.Proofs.YtbigcojlpcchiaaGreat.Sy
