/- Layer 10: lists, written by the program. -/
import Derived.Test.YtidaedchmjlbfaaGreatC10d
namespace Go.Proofs.YtidaedchmjlbfaaGreat.Sy
open Go Go.RowKit
set_option linter.unusedVariables false
set_option linter.unusedSimpArgs false
set_option maxRecDepth 10000
set_option maxHeartbeats 4000000
def clist_inv (l : List ByteArray) (tm : Array Value) (fid : FuncId) (dfs : Nat) (A B : Code) (m : Nat) (st : St) : Prop := ∃ (i : Nat) (acc : ByteArray) (nm : Nat), (nm = 185 ∨ nm = 240) ∧ m = l.length - i ∧ i ≤ l.length ∧ 0 < acc.size ∧ acc.size ≤ 65536 ∧ listR l (numS l.length) = listR (l.drop i) acc ∧
  st = ⟨25, [(9, .val (.int .i64 i)), (8, .val (.int .i64 l.length)), (7, .rd 1 (strs l)), (0, .yld 232)],
    [(232, ⟨0, 0, [], .loop ⟨33, [(4, .ref 104 2 0 0), (3, .ref 72 1 0 0), (2, .ref 64 1 0 0)], tm, fid, #[22, 23], A, B, dfs, .ready, none⟩⟩), (104, bldO (.ref 104 2 0 0) (.sl nm 1 0 acc.size)), (nm, bytO acc), (72, ⟨32, 1, [[.val (.int .i64 0)]], .cells⟩), (64, ⟨9, 1, [[.val (.string ⟨#[]⟩)]], .cells⟩)], 248⟩
theorem List_call {l : List ByteArray} (hl : l.length ≤ maxLen) (hs : ∀ x ∈ l, x.size ≤ maxLen) : CallOk Tryz.prog 47 [.rd 1 (strs l)] [] (.tup [.val (.string (listE l).1), eN (listE l).2]) [] := by
  refine .of_exec Tryz.func47 rfl (enters_47) rfl rfl (Nat.le_of_ble_eq_true rfl) (fun n _ => rfl) ?_
  unfold maxLen at hl
  by_cases h : 1000 < l.length
  · have e : listE l = (⟨#[]⟩, 2) := if_pos h
    have h' : (1000 : Int) < l.length := by omega
    simp [h, h']
    exact .plain (by simp) (by simp [e])
  · have h' : ¬ (1000 : Int) < l.length := by omega
    have e1 : listE l = match listR l (numS l.length) with
      | some b => (b, 0)
      | none => (⟨#[]⟩, 2) := if_neg h
    have e2 : numE l.length = (numS l.length, 0) := if_neg (by omega)
    have cn := Number_call (n := (l.length : Int)) ⟨by omega, by omega⟩
    rw [e2] at cn
    simp [h, h']
    refine .plain cn (by simp) (by simp) ?_
    simp
    refine callK.own [] [(104, 0)] (Write_first (s := numS l.length) (by rw [numS_size]; omega)) (by simp) (by simp) (by simp) (by simp) (by simp) (by simp) (by simp) (by simp) (by simp) (by simp) ?_
    simp [numS_size]
    refine callK.walk (n := 4) (res := [.tmp 2]) Tryz.func71 rfl (enters_71) rfl rfl (by simp) ?_
    simp
    refine WPg.rangeV (by simp) (by simp; rfl) (n := 25) Tryz.func82 rfl (enters_82) rfl (by simp) rfl fun tm fid dfs A B hA hB => ?_
    simp
    refine WPg.loopW (clist_inv l tm fid dfs A B) ⟨l.length, _, ?_, ⟨0, numS l.length, 185, .inl rfl, by simp, by simp, by rw [numS_size]; omega, by rw [numS_size]; omega, rfl, rfl⟩⟩ ?_
    · exact Wk.rn [] rfl (by simp) (by simp) (by simp [numS_size])
    rintro m st ⟨i, acc, nm, hnm, h1, h2, h30, h3, h4, rfl⟩
    by_cases hi : i < l.length
    · have hi' : (i : Int) < l.length := by omega
      have hw : IntKind.i64.wrap ((i : Int) + 1) = ((i + 1 : Nat) : Int) := by rw [w64 (by omega) (by omega)]; omega
      obtain ⟨x, hx⟩ : ∃ x, l[i] = x := ⟨_, rfl⟩
      have hxs : x.size ≤ maxLen := hs x (by rw [← hx]; exact List.getElem_mem hi)
      have hxs' := hxs
      unfold maxLen at hxs'
      rw [List.drop_eq_getElem_cons hi, hx, listR_cons] at h4
      rcases hnm with rfl | rfl
      all_goals
        simp [hi, hi', hx]
        refine .plain (Text_call hxs) (by simp) (by simp) ?_
        by_cases c1 : 65536 < x.size
        · have et : textE x = (⟨#[]⟩, 2) := if_pos c1
          rw [if_pos (.inl c1)] at h4
          rw [h4] at e1
          simp [et]
          refine yieldK.walk (by simp; rfl) rfl rfl (by simp) (by simp) ?_
          simp [hA, hB]
          first
            | refine callK.own [] [(104, 0), (185, 1)] (Write_again (t := acc) (s := ⟨#[]⟩) h30 (show acc.size + 0 ≤ _ by omega)) (by simp) (by simp) (by simp) (by simp) (by simp) (by simp; intro e; rw [e] at h30; simp at h30) (by simp) (by simp) (by simp) (by simp) ?_
            | refine callK.own [] [(104, 0), (240, 1)] (Write_again (t := acc) (s := ⟨#[]⟩) h30 (show acc.size + 0 ≤ _ by omega)) (by simp) (by simp) (by simp) (by simp) (by simp) (by simp; intro e; rw [e] at h30; simp at h30) (by simp) (by simp) (by simp) (by simp) ?_
          simp
          refine roundK.mk (by simp; rfl) ?_
          simp
          refine rangeQ.mk (by simp; rfl) rfl rfl (by simp) ?_
          simp
          exact .plain (by simp) (by simp [e1])
        · have et : textE x = (numS x.size ++ x, 0) := if_neg c1
          have hz : acc.size + (numS x.size ++ x).size ≤ 140737488355328 := by rw [ByteArray.size_append, numS_size]; omega
          have hwr := Write_again (t := acc) (s := numS x.size ++ x) h30 hz
          have hln := Len_again (t := acc ++ (numS x.size ++ x))
          simp [et]
          refine yieldK.walk (by simp; rfl) rfl rfl (by simp) (by simp) ?_
          simp [hA, hB]
          first
            | refine callK.own [] [(104, 0), (185, 1)] hwr (by simp) (by simp) (by simp) (by simp) (by simp) (by simp; intro e; rw [e] at h30; simp at h30) (by simp) (by simp) (by simp) (by simp) ?_
            | refine callK.own [] [(104, 0), (240, 1)] hwr (by simp) (by simp) (by simp) (by simp) (by simp) (by simp; intro e; rw [e] at h30; simp at h30) (by simp) (by simp) (by simp) (by simp) ?_
          simp
          refine callK.own [] [(104, 0), (394, 1)] hln (by simp) (by simp) (by simp) (by simp) (by simp) (by simp; intro e; rw [e] at h30; simp at h30) (by simp) (by simp) (by simp) (by simp) ?_
          by_cases c2 : 65536 < acc.size + (4 + x.size)
          · have c2' : (65536 : Int) < (acc.size : Int) + (4 + (x.size : Int)) := by omega
            rw [if_pos (.inr c2)] at h4
            rw [h4] at e1
            simp [numS_size, c2, c2']
            refine roundK.mk (by simp; rfl) ?_
            simp
            refine rangeQ.mk (by simp; rfl) rfl rfl (by simp) ?_
            simp
            exact .plain (by simp) (by simp [e1])
          · have c2' : ¬ (65536 : Int) < (acc.size : Int) + (4 + (x.size : Int)) := by omega
            rw [if_neg (fun c => c.elim c1 c2)] at h4
            simp [numS_size, c2, c2']
            refine roundK.mk (by simp; rfl) ?_
            simp
            refine ⟨l.length - (i + 1), by omega, _, ?_, ⟨i + 1, acc ++ (numS x.size ++ x), 240, .inr rfl, rfl, by omega, by simp [numS_size]; omega, by simp [numS_size]; omega, h4, rfl⟩⟩
            rw [hw]
            exact Wk.rn [(394, 240)] rfl (by simp) (by simp) (by simp [numS_size])
    · obtain rfl : i = l.length := by omega
      rw [List.drop_length] at h4
      rw [h4] at e1
      rcases hnm with rfl | rfl
      all_goals
        simp
        refine rangeQ.mk (by simp; rfl) rfl rfl (by simp) ?_
        simp
        first
          | refine callK.own [] [(104, 0), (185, 1)] (String_call (s := acc) h30 (by unfold maxLen; omega)) (by simp) (by simp) (by simp) (by simp) (by simp) (by simp; intro e; rw [e] at h30; simp at h30) (by simp) (by simp) (by simp) (by simp) ?_
          | refine callK.own [] [(104, 0), (240, 1)] (String_call (s := acc) h30 (by unfold maxLen; omega)) (by simp) (by simp) (by simp) (by simp) (by simp) (by simp; intro e; rw [e] at h30; simp at h30) (by simp) (by simp) (by simp) (by simp) ?_
        simp
        exact .plain (by simp) (by simp [e1, listR])
end Go.Proofs.YtidaedchmjlbfaaGreat.Sy
