/- Layer 11: the law's first calls. -/
import Derived.Test.YtidaedchmjlbfaaGreatC11s
import Derived.Test.YtidaedchmjlbfaaGreatC11g
namespace Go.Proofs.YtidaedchmjlbfaaGreat.Sy
open Go Go.RowKit
set_option linter.unusedVariables false
set_option linter.unusedSimpArgs false
set_option maxRecDepth 10000
set_option maxHeartbeats 4000000
abbrev z12 : ByteArray := ⟨#[0, 0, 0, 4, 0, 0, 0, 0, 0, 0, 0, 0]⟩
abbrev z20 : ByteArray := ⟨#[0, 0, 0, 3, 0, 0, 0, 0, 0, 0, 0, 0, 0, 0, 0, 3, 0, 0, 0, 0]⟩
theorem aw1 : encQ 4 [] [] = (z12, 0) := by decide +kernel
theorem aw2 : decQ z12 = (4, [], [], 0) := by decide +kernel
theorem aw3 : ansA 3 0 [] 3 0 = (z20, 0) := by decide +kernel
theorem aw4 : (readA z20).m = 3 ∧ (readA z20).e = 0 := by decide +kernel
theorem aw5 : (decQ (z12 ++ ⟨#[120]⟩)).2.2.2 = 13 := by decide +kernel
theorem aw6 : (readA ⟨#[]⟩).e = 10 := by decide +kernel
theorem aw7 : encQ 0 [] [] = (⟨#[]⟩, 1) := by decide +kernel
theorem CallOk.weak {P : Program} {f : FuncId} {args args' : List PV} {pre post : List (Nat × Ob)} {r : PV} (h : CallOk P f args pre r post) (hw : ∀ C vs, ReL C args' vs → ReL C args vs) : CallOk P f args' pre r post :=
  ⟨h.1, fun C vs ha hob hs hm => h.2 C vs (hw C vs ha) hob hs hm⟩
theorem encN_call {k : Int} (hk : isI64 k) : CallOk Tryz.prog 6 [.agg [.val (.int .i64 k), .val (.slice none 0 0), .val (.slice none 0 0)]] [] (.tup [.val (.string (encQ k [] []).1), eN (encQ k [] []).2]) [] :=
  (Encode_call (ls := []) (cs := []) hk (by simp) (by simp)).weak fun C vs h => by
    obtain ⟨v, rfl, hv⟩ := reL1 h
    exact .cons (hv.nilRd1 1) (.nil _)
theorem ansN_call {k m : Int} (hk : isI64 k) (hm : isI64 m) : CallOk Tryz.prog 9 [.agg [.val (.int .i64 k), .val (.int .i64 0), .val (.slice none 0 0), .val (.int .i64 m), .val (.int .i64 0)]] [] (.tup [.val (.string (ansA k 0 [] m 0).1), eN (ansA k 0 [] m 0).2]) [] :=
  (Answer_call (cs := []) hk ⟨by omega, by omega⟩ hm ⟨by omega, by omega⟩ (by simp)).weak fun C vs h => by
    obtain ⟨v, rfl, hv⟩ := reL1 h
    exact .cons (hv.nilRd1 1) (.nil _)
theorem awake11_call : CallOk Tryz.prog 4 [] [] (.val (.bool true)) [] := by
  refine .of_exec Tryz.func4 rfl (enters_4) rfl rfl (Nat.le_of_ble_eq_true rfl) (fun n _ => rfl) ?_
  have c1 := encN_call (k := 4) ⟨by omega, by omega⟩
  have c2 := Decode_call z12
  have c3 := ansN_call (k := 3) (m := 3) ⟨by omega, by omega⟩ ⟨by omega, by omega⟩
  have c4 := Read_call z20
  have c5 := Decode_call (z12 ++ ⟨#[120]⟩)
  have c6 := Read_call ⟨#[]⟩
  have c7 := encN_call (k := 0) ⟨by omega, by omega⟩
  rw [aw1] at c1
  rw [aw2] at c2
  rw [aw3] at c3
  obtain ⟨a4, a4'⟩ := aw4
  rw [a4, a4'] at c4
  rw [aw5] at c5
  rw [aw6] at c6
  rw [aw7] at c7
  simp
  refine .plain c1 (by simp) (by simp) ?_
  simp
  refine .plain c2 (by simp) (by simp) ?_
  simp
  refine .plain c3 (by simp) (by simp) ?_
  simp
  refine .plain c4 (by simp) (by simp) ?_
  have hz : z12.size + (⟨#[120]⟩ : ByteArray).size ≤ 9223372036854775807 := by decide
  simp
  refine ⟨hz, fun _ => .plain c5 (by simp) (by simp) ?_⟩
  simp
  refine .plain c6 (by simp) (by simp) ?_
  simp
  refine .plain c7 (by simp) (by simp) ?_
  have hm : 8 ≤ maxLen := by decide
  have h8 : (⟨#[0, 0, 0, 4]⟩ : ByteArray) ++ strOfNums [0, 0, 0, 0, 0, 0, 0, 0] = z12 := by decide +kernel
  have h9 : (⟨#[0, 0, 0, 4]⟩ : ByteArray).size + (strOfNums [0, 0, 0, 0, 0, 0, 0, 0]).size ≤ 9223372036854775807 := by decide +kernel
  have h20 : z20.size = 20 := rfl
  simp [hm, h8, h9, h20, numsOf]
  exact .plain (by simp) (by simp)
end Go.Proofs.YtidaedchmjlbfaaGreat.Sy
