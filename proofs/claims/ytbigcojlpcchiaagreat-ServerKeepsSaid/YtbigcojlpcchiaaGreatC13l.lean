/- Layer 13: the laws ServerLimit, ServerTwice, ServerBytes. -/
import Derived.Test.YtbigcojlpcchiaaGreatC13g
import Derived.Test.YtbigcojlpcchiaaGreatC13h
import Derived.Test.YtbigcojlpcchiaaGreatC11z
namespace Go.Proofs.YtbigcojlpcchiaaGreat.Sy
open Go Go.RowKit
set_option linter.unusedVariables false
set_option linter.unusedSimpArgs false
set_option maxRecDepth 10000
set_option maxHeartbeats 16000000
open Bk (Sto rowsB stoP putS getS delS RightI inB)
def lim_inv (raw : List (List Int)) (n : Int) (m : Nat) (st : St) : Prop := ∃ (i : Nat) (s : Sto), m = raw.length - i ∧ i ≤ raw.length ∧ i ≤ 12 ∧ rightV s n = true ∧
  st = ⟨85, [(9, .val (.int .i64 i)), (8, .val (.int .i64 0)), (7, .ref 64 4 0 0), (6, .val (.int .i64 n)), (5, .val (.bool true)), (1, .rd 1 (rowsRR raw))], [(64, srvO s n)], 72⟩
theorem limit_call {limit : Int} {raw : List (List Int)} (hl : isI64 limit) (hr : rawOk raw) : CallOk Tryz.prog 7 [.val (.int .i64 limit), .rd 1 (rowsRR raw)] [] (.val (.bool true)) [] := by
  refine .of_exec Tryz.func7 rfl (enters_7) rfl rfl (Nat.le_of_ble_eq_true rfl) (fun n _ => rfl) ?_
  have hp := pickI_range (c := limit) (n := 40) (by omega)
  have hpk := pick13_call (c := limit) (n := 40) hl (by omega)
  generalize pickI limit 40 = n at *
  have hn := snew_call n
  have e : newV n = (Bk.freshS 8, n, 0) := if_neg (by omega)
  rw [e] at hn
  have hnr := new_right (lim := n) (by omega)
  generalize Bk.freshS 8 = s0 at *
  simp
  refine .plain awake13_call (by simp) (by simp) ?_
  simp
  refine .plain hpk (by simp) (by simp) ?_
  simp
  refine .plain hn (by simp) (by simp) ?_
  simp
  refine WPg.loopW (lim_inv raw n) ⟨raw.length, _, ?_, ⟨0, s0, by simp, by simp, by simp, hnr, rfl⟩⟩ ?_
  · exact Wk.rn [(152, 64)] rfl (by simp) (by simp) (by simp)
  rintro m st ⟨i, s, h1, h2, h3, h4, rfl⟩
  by_cases hi : i < raw.length ∧ i < 12
  · have hi1 : (i : Int) < raw.length := by omega
    have hi2 : (i : Int) < 12 := by omega
    have hw : IntKind.i64.wrap ((i : Int) + 1) = ((i + 1 : Nat) : Int) := by rw [w64 (by omega) (by omega)]; omega
    obtain ⟨x, hx⟩ : ∃ x, raw[i]'hi.1 = x := ⟨_, rfl⟩
    have hxo := hr.2 x (by rw [← hx]; exact List.getElem_mem _)
    have hxr := r13_right x
    obtain ⟨f1, f2, _, _, _, f6, f7, _⟩ := right_facts hxr
    have hs := rightI_small (rightV_iff.1 h4).1
    have hD := Do_call (s := s) (lim := n) (K := r13K x) (ls := r13L x) (cs := r13C x) hs ⟨by omega, by omega⟩ (by omega) (by omega)
    have h4' := do_right (k := r13K x) (ls := r13L x) (cs := r13C x) h4
    generalize doV s n (r13K x) (r13L x) (r13C x) = R at *
    obtain ⟨s', a⟩ := R
    simp only at hD h4'
    obtain ⟨hr', l0, l1, l2⟩ := rightV_iff.1 h4'
    have hs' := rightI_small hr'
    have hsm := Bk.right_small hr'
    have hD2 := DoN_call (s := s') (lim := n) (k := 4) hs' (by omega)
    have e2 : doV s' n 4 [] [] = (s', ⟨4, 0, [], s'.many, n - s'.many⟩) := by rw [do_of (by decide) h4']; rfl
    rw [e2] at hD2
    have w1 : IntKind.i64.wrap (n - s'.many) = n - s'.many := w64 (by omega) (by omega)
    have c1 : ¬ n < s'.many := by omega
    simp [hi.1, hi.2, hi1, hi2, hx]
    refine callT.plain (req13_call hxo.1 hxo.2) (by simp) (by simp) ?_
    simp
    refine callT.plain hD (by simp) (by simp) ?_
    simp
    refine ⟨rfl, .plain hD2 (by simp) (by simp) ?_⟩
    simp [c1, w1]
    refine .plain (ssame_call hs') (by simp) (by simp) ?_
    simp
    refine ⟨raw.length - (i + 1), by omega, _, ?_, ⟨i + 1, s', rfl, by omega, by omega, h4', rfl⟩⟩
    rw [hw]
    exact Wk.rn [(64, 64)] rfl (by simp) (by simp) (by simp)
  · by_cases hi1 : i < raw.length
    · have hi2 : ¬ (i : Int) < 12 := by omega
      have hi1' : (i : Int) < raw.length := by omega
      simp [hi1, hi1', hi2]
      exact .plain (by simp) (by simp)
    · have hi1' : ¬ (i : Int) < raw.length := by omega
      simp [hi1, hi1']
      exact .plain (by simp) (by simp)
theorem twice_call {limit : Int} {raw : List (List Int)} {next : List Int} (hl : isI64 limit) (hr : rawOk raw) (hn : next.length ≤ maxLen ∧ ∀ n ∈ next, isI64 n) : CallOk Tryz.prog 5 [.val (.int .i64 limit), .rd 1 (rowsRR raw), .rd 1 (rowsJ next)] [] (.val (.bool true)) [] := by
  refine .of_exec Tryz.func5 rfl (enters_5) rfl rfl (Nat.le_of_ble_eq_true rfl) (fun n _ => rfl) ?_
  have hS := server13_call hl hr
  have hv := srv_right limit raw
  generalize srvS limit raw = s at *
  generalize pickI limit 40 = n at *
  have hq := r13_right next
  have hR := req13_call hn.1 hn.2
  generalize r13K next = k at *
  generalize r13L next = ls at *
  generalize r13C next = cs at *
  obtain ⟨f1, f2, _, _, _, f6, f7, _⟩ := right_facts hq
  obtain ⟨t1, t2, t3, t4⟩ := do_twice hq hv
  have hs := rightI_small (rightV_iff.1 hv).1
  have hl1 := do_len s n k ls cs hs
  have hm := do_may s n k ls cs
  have d1 := Do_call (s := s) (lim := n) (K := k) (ls := ls) (cs := cs) hs ⟨by omega, by omega⟩ (by omega) (by omega)
  have d2 := Do_call (s := (doV s n k ls cs).1) (lim := n) (K := k) (ls := ls) (cs := cs) hl1 ⟨by omega, by omega⟩ (by omega) (by omega)
  generalize doV (doV s n k ls cs).1 n k ls cs = R2 at *
  generalize doV s n k ls cs = R1 at *
  obtain ⟨s1, a⟩ := R1
  obtain ⟨s2, b⟩ := R2
  simp only at t1 t2 t3 t4 hl1 hm d1 d2
  subst t1
  obtain ⟨_, _, _, _, _, _, _, _, g5, _⟩ := may_facts hm
  simp
  refine .plain awake13_call (by simp) (by simp) ?_
  simp
  refine .plain hS (by simp) (by simp) ?_
  simp
  refine .plain hR (by simp) (by simp) ?_
  simp
  refine .plain d1 (by simp) (by simp) ?_
  simp
  refine .plain d2 (by simp) (by simp) ?_
  simp
  refine .plain (ssame_call hl1) (by simp) (by simp) ?_
  by_cases k3 : k = 3
  · have e := t2 k3
    simp [k3, e]
    exact .plain (by simp) (by simp)
  · have e := t3 k3
    subst e
    have hA := alike_call (k := b.k) (k' := b.k) (st := b.st) (st' := b.st) (m := b.m) (m' := b.m) (r := b.r) (r' := b.r) (cs := b.cs) (cs' := b.cs) (by omega) (by omega)
    simp only [and_self, decide_true] at hA
    simp [k3]
    refine .plain hA (by simp) (by simp) ?_
    by_cases k1 : k = 1
    · simp [k1]
      exact .plain (by simp) (by simp)
    · have e := t4 k1 k3
      subst e
      simp [k1, k3]
      refine .plain (ssame_call hl1) (by simp) (by simp) ?_
      simp
      exact .plain (by simp) (by simp)
end Go.Proofs.YtbigcojlpcchiaaGreat.Sy
