/- Layer 17: the law ModelCounts. -/
import Derived.Test.YtipolblhiljoiaaC17F
import Derived.Test.YtipolblhiljoiaaC17D
namespace Go.Proofs.Ytipolblhiljoiaa.Sy
open Go Go.RowKit
set_option linter.unusedVariables false
set_option linter.unusedSimpArgs false
set_option maxRecDepth 10000
set_option maxHeartbeats 4000000
def counts_inv (l m : List DocW) (k id : Int) (s : ByteArray) (w : Int) (mm : Nat) (st : St) : Prop := ∃ i : Nat, mm = l.length - i ∧ i ≤ l.length ∧
  st = ⟨100, [(12, .val (.int .i64 i)), (11, .val (.int .i64 w)), (8, .rd 2 (rowsD m)), (7, .ref 64 3 0 0), (6, .rd 2 (rowsD l)), (5, .val (.bool true))], [(64, ⟨32, 3, [[.val (.int .i64 k), .val (.int .i64 id), .val (.string s)]], .cells⟩)], 72⟩
theorem right_one {l : List DocW} (h : rightD l = true) {x : DocW} (hx : x ∈ l) : DocsIn [x] := by
  have := right_in h
  exact ⟨by simp, fun d hd => by rw [List.mem_singleton.1 hd]; exact this.ws x hx⟩
theorem counts_call {rs : List RawW} {next : RawW} (hl : rs.length ≤ maxLen) (h : ∀ r ∈ rs, RawIn r) (h1 : RawIn next) : CallOk Try.prog 6 [.rd 3 (rowsN rawR rs), .agg (rawR next)] [] (.val (.bool true)) [] := by
  refine .of_exec Try.func6 rfl (enters_6) rfl rfl (Nat.le_of_ble_eq_true rfl) (fun n _ => rfl) ?_
  have hD := Docs_call hl h
  have hO := Op_call h1.a h1.b h1.len h1.t
  have hR := docs_right rs
  have hlen := docs_len rs
  rw [show opW ⟨next.a, next.b, next.t⟩ = opW next from rfl] at hO
  generalize docsV rs = L at *
  generalize opW next = o at *
  obtain ⟨k, id, s⟩ := o
  try simp only at *
  have d1 := mDo_call (right_in hR) (k := k) (id := id) (s := s)
  have hq := do_right hR k id s
  have hc := do_count (l := L) (k := k) (id := id) (s := s)
  have herr := do_err (l := L) (k := k) (id := id) (s := s)
  have hml := do_len (l := L) (k := k) (id := id) (s := s)
  generalize doM L k id s = F1 at *
  obtain ⟨M, f1, e1⟩ := F1
  try simp only at *
  have hRt := mright_call (right_in hq)
  rw [hq] at hRt
  have hF := fun id => find_call (right_in hq) (id := id)
  have hS := rSame_call (right_in hR) (right_in hR)
  have eS : eqD L L = true := by simp [eqD]
  rw [eS] at hS
  simp
  refine .plain awake17_call (by simp) (by simp) ?_
  simp
  refine .plain hD (by simp) (by simp) ?_
  simp
  refine callK.plain hO (by simp) (by simp) ?_
  simp
  refine .plain d1 (by simp) (by simp) ?_
  by_cases he : e1 = 0
  · obtain ⟨c1, c2⟩ := hc he
    obtain ⟨w, hw⟩ : ∃ w : Int, w = M.length := ⟨_, rfl⟩
    have w1 : IntKind.i64.wrap ((L.length : Int) + 1) = (L.length : Int) + 1 := w64 (by omega) (by omega)
    have w2 : IntKind.i64.wrap ((L.length : Int) - 1) = (L.length : Int) - 1 := w64 (by omega) (by omega)
    simp [he, w1, w2]
    refine ⟨fun k1 => ?_, fun k1 => ⟨fun k2 => ?_, fun k2 => ?_⟩⟩
    all_goals
      first
      | rw [if_pos k1] at c1
      | rw [if_neg k1, if_pos k2] at c1
      | rw [if_neg k1, if_neg k2, Int.add_zero] at c1
      refine WPg.loopW (counts_inv L M k id s M.length) ⟨L.length, _, ?_, ⟨0, by simp, by simp, rfl⟩⟩ ?_
      · exact Wk.rn [(160, 64)] rfl (by simp) (by simp [c1, Int.sub_eq_add_neg]) (by simp)
      rintro m st ⟨i, h1, h2, rfl⟩
      by_cases hi : i < L.length
      · have hi' : (i : Int) < L.length := by omega
        have hne : L ≠ [] := by rintro rfl; simp at hi
        have hwr : IntKind.i64.wrap ((i : Int) + 1) = ((i + 1 : Nat) : Int) := by rw [w64 (by omega) (by omega)]; omega
        obtain ⟨x, hx⟩ : ∃ x, L[i] = x := ⟨_, rfl⟩
        have hxm : x ∈ L := by rw [← hx]; exact List.getElem_mem hi
        simp [hi, hi', hx, hne]
        by_cases hxi : x.id = id
        · have hFx := hF x.id
          generalize getD M x.id = g at hFx
          obtain ⟨d, b⟩ := g
          refine .plain hFx (by simp) (by simp) ?_
          simp [hi, hi', hx, hne, hxi]
          refine ⟨rfl, L.length - (i + 1), by omega, _, ?_, ⟨i + 1, rfl, by omega, rfl⟩⟩
          rw [hwr]
          exact Wk.rn [(64, 64)] rfl (by simp) (by simp) (by simp)
        · have hFx := hF x.id
          rw [get_mem (right_sort hq) (c2 x hxm hxi)] at hFx
          refine .plain hFx (by simp) (by simp) ?_
          have m1 : 1 ≤ maxLen := by decide
          have ec : (L.take (i + 1)).drop i = [x] := by
            rw [List.drop_take, List.drop_eq_getElem_cons hi, hx, Nat.add_sub_cancel_left]; rfl
          have b1 : (i : Int) ≤ ((i + 1 : Nat) : Int) ∧ ((i + 1 : Nat) : Int) ≤ (L.length : Int) := by omega
          have hS1 := rSame_call (l := [x]) (r := [x]) (right_one hR hxm) (right_one hR hxm)
          rw [show eqD [x] [x] = true by simp [eqD]] at hS1
          simp [hi, hi', hx, hne, hxi, m1, hwr, -Int.natCast_add]
          refine ⟨by omega, ?_⟩
          rw [ec]
          refine callT.own [312] [] hS1 (by simp [rowsN]) (by simp) (by simp) (by simp) (by simp) (by simp) (by simp) (by simp) (by simp) (by simp) ?_
          simp [hi, hi', hx, hne, hxi]
          refine ⟨rfl, L.length - (i + 1), by omega, _, ?_, ⟨i + 1, rfl, by omega, rfl⟩⟩
          rw [hwr]
          exact Wk.rn [(64, 64)] rfl (by simp) (by simp) (by simp)
      · obtain rfl : i = L.length := by omega
        simp
        refine .plain hRt (by simp) (by simp) ?_
        simp
        exact .plain (by simp) (by simp)
  · have e := herr he
    subst e
    simp [he]
    refine .plain hS (by simp) (by simp) ?_
    simp
    exact .plain (by simp) (by simp)
end Go.Proofs.Ytipolblhiljoiaa.Sy
