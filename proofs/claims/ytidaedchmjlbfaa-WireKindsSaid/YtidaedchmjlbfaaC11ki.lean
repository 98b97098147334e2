/- Layer 11: the law WireKinds. -/
import Derived.Test.YtidaedchmjlbfaaC11aw
import Derived.Test.YtidaedchmjlbfaaC11z
namespace Go.Proofs.Ytidaedchmjlbfaa.Sy
open Go Go.RowKit
set_option linter.unusedVariables false
set_option linter.unusedSimpArgs false
set_option maxRecDepth 10000
set_option maxHeartbeats 16000000
theorem encQ_fst {k : Int} {ls cs : List ByteArray} (h : rightQ k ls cs = true) : (encQ k ls cs).2 = 0 := by rw [encQ_ok h]
theorem ansA_fst {k st m r : Int} {cs : List ByteArray} (h : mayA k st cs m r = true) : (ansA k st cs m r).2 = 0 := by rw [ansA_ok h]
theorem kinds_call {kind other a b c : Int} {raw : List Int} (hk : isI64 kind) (ha : isI64 a) (hb : isI64 b) (hc : isI64 c) (ho : isI64 other) (hl : raw.length ≤ maxLen) (hr : ∀ n ∈ raw, isI64 n) :
    CallOk Try.prog 5 [.val (.int .i64 kind), .rd 1 (rowsJ raw), arr3 a b c, .val (.int .i64 other)] [] (.val (.bool true)) [] := by
  refine .of_exec Try.func5 rfl (enters_5) rfl rfl (Nat.le_of_ble_eq_true rfl) (fun n _ => rfl) ?_
  have r1 := req_right kind raw
  have r2 := rsp_may kind a b c raw
  have q1 := request_call hk hl hr
  have q2 := response_call hk ha hb hc hl hr
  have hp := pickI_range (c := other) (n := 7) (by omega)
  have hpk := pick11_call (c := other) (n := 7) ho (by omega)
  generalize pickI other 7 = j at *
  generalize pickI kind 5 = k' at *
  generalize rspS k' a = st at *
  generalize rspC k' raw = cs' at *
  generalize rspM k' b = m at *
  generalize rspR k' c = r at *
  generalize reqK kind = k at *
  generalize reqL kind raw = ls at *
  generalize reqC kind raw = cs at *
  obtain ⟨f1, f2, f3, f4, f5, f6, f7, _⟩ := right_facts r1
  obtain ⟨g1, g2, _, _, _, _, g3, g4, g5, g6, g7, g8, g9, g10⟩ := may_facts r2
  have hz := encQ_size r1
  have hz' := ansA_size r2
  have hz2 := textsB_le (n := 40) (l := cs') fun x hx => by rcases g6 x hx with e | e <;> omega
  have he1 := encQ_ok r1
  have he2 := ansA_ok r2
  have c1 := Encode_call (k := k) (ls := ls) (cs := cs) ⟨by omega, by omega⟩ (by omega) (by omega)
  have c2 := Answer_call (k := k') (st := st) (cs := cs') (m := m) (r := r) ⟨by omega, by omega⟩ ⟨by omega, by omega⟩ ⟨by omega, by omega⟩ ⟨by omega, by omega⟩ (by omega)
  have x1 : (encQ k ls cs).1.extract 4 (encQ k ls cs).1.size = numS ls.length ++ (textsB ls ++ (numS cs.length ++ textsB cs)) := by rw [he1]; exact ext_from (numS_size _)
  obtain ⟨R, hR⟩ : ∃ R, (ansA k' st cs' m r).1.extract 4 (ansA k' st cs' m r).1.size = R := ⟨_, rfl⟩
  have nb := numS_byte hp.1 (by omega : j < 256)
  have d1 := dec_of (k := j) (ls := ls) (cs := cs) rfl (by have := congrArg ByteArray.size x1; rw [ByteArray.size_extract] at this; rw [ByteArray.size_append, numS_size]; omega) hp.1 (by omega) (by omega) (by omega)
  have ro := right_other (j := j) r1
  have rk := fun h => read_kind (k := j) (s := numS j ++ R) (q := R) rfl hp.1 (by omega) h
  have cd := Decode_call (numS j ++ (numS ls.length ++ (textsB ls ++ (numS cs.length ++ textsB cs))))
  have cr := Read_call (numS j ++ R)
  have hu : IntKind.u8.wrap j = j := u8w (by omega) (by omega)
  have e1 : (encQ k ls cs).2 = 0 := encQ_fst r1
  have e2 : (ansA k' st cs' m r).2 = 0 := ansA_fst r2
  rw [e1] at c1
  rw [e2] at c2
  generalize (encQ k ls cs).1 = s at *
  generalize (ansA k' st cs' m r).1 = t at *
  generalize readA (numS j ++ R) = A at *
  obtain ⟨T, hT⟩ : ∃ T, numS ls.length ++ (textsB ls ++ (numS cs.length ++ textsB cs)) = T := ⟨_, rfl⟩
  rw [hT] at x1 cd d1
  obtain ⟨D, hD⟩ : ∃ D, decQ (numS j ++ T) = D := ⟨_, rfl⟩
  have hD1 : D.2.2.2 = 0 ↔ rightQ j ls cs = true := by
    rw [← hD, d1]
    cases rightQ j ls cs <;> simp
  have hD2 : D.2.2.2 = 0 → D.1 = j := by
    rw [← hD, d1]
    cases rightQ j ls cs <;> simp
  rw [hD] at cd
  clear d1 hD
  obtain ⟨dk, dl, dc, de⟩ := D
  simp only at hD1 hD2 cd
  rw [ro] at hD1
  have z1 : ¬ (s.size : Int) < 12 := by omega
  have z2 : ¬ (t.size : Int) < 20 := by omega
  simp
  refine .plain awake11_call (by simp) (by simp) ?_
  simp
  refine .plain q1 (by simp) (by simp) ?_
  simp
  refine .plain q2 (by simp) (by simp) ?_
  simp
  refine .plain c1 (by simp) (by simp) ?_
  simp
  refine .plain c2 (by simp) (by simp) ?_
  simp [z1, z2]
  refine .plain hpk (by simp) (by simp) ?_
  have m1 : 1 ≤ maxLen := by decide
  have v1 : (⟨#[0, 0, 0]⟩ : ByteArray).size ≤ 9223372036854775806 := by decide
  have v2 : 4 ≤ (s.size : Int) := by omega
  have v3 : 4 ≤ (t.size : Int) := by omega
  have v4 : (numS j).size + T.size ≤ 9223372036854775807 := by
    have := congrArg ByteArray.size x1
    rw [ByteArray.size_extract] at this
    rw [numS_size]; omega
  have v5 : (numS j).size + R.size ≤ 9223372036854775807 := by
    have := congrArg ByteArray.size hR
    rw [ByteArray.size_extract] at this
    rw [numS_size]; omega
  simp [hu, m1, numsOf, strOfNums_size, nb, x1, v1, v2, v4]
  refine callT.plain cd (by simp) (by simp) ?_
  simp
  refine ⟨rfl, ?_⟩
  simp [hu, m1, numsOf, strOfNums_size, nb, hR, v1, v3, v5]
  refine callT.plain cr (by simp) (by simp) ?_
  simp
  refine ⟨rfl, ?_⟩
  have hlp : ¬ ls = [] → 0 < ls.length := fun h => List.length_pos_iff.2 h
  by_cases k1 : k = 1
  · subst k1
    by_cases ln : ls = []
    · subst ln
      by_cases x1 : 1 ≤ j
      · by_cases x2 : j ≤ 4
        · skip
          by_cases x3 : j = 1
          · subst x3
            have hde : de = 0 := hD1.2 (by simp [x1, x2] <;> omega)
            have hdk := hD2 hde
            subst hde
            by_cases hA : A.e = 0
            · obtain ⟨rk1, rk2⟩ := rk hA
              first
              | (exfalso; omega)
              | (simp [x1, x2, hA, rk1, hdk]; exact .plain (by simp) (by simp [x1, x2, hA, rk1, rk2, hdk]))
            · simp [x1, x2, hA, hdk]
              exact .plain (by simp) (by simp [x1, x2, hA, hdk])
          · skip
            have hde : de = 0 := hD1.2 (by simp [x1, x2, x3] <;> omega)
            have hdk := hD2 hde
            subst hde
            by_cases hA : A.e = 0
            · obtain ⟨rk1, rk2⟩ := rk hA
              first
              | (exfalso; omega)
              | (simp [x1, x2, x3, hA, rk1, hdk]; exact .plain (by simp) (by simp [x1, x2, x3, hA, rk1, rk2, hdk]))
            · simp [x1, x2, x3, hA, hdk]
              exact .plain (by simp) (by simp [x1, x2, x3, hA, hdk])
        · skip
          have hde : ¬ de = 0 := fun e => by have := hD1.1 e; simp [x1, x2] at this <;> omega
          by_cases hA : A.e = 0
          · obtain ⟨rk1, rk2⟩ := rk hA
            first
            | (exfalso; omega)
            | (simp [x1, x2, hA, rk1, hde]; exact .plain (by simp) (by simp [x1, x2, hA, rk1, rk2, hde]))
          · simp [x1, x2, hA, hde]
            exact .plain (by simp) (by simp [x1, x2, hA, hde])
      · skip
        have hde : ¬ de = 0 := fun e => by have := hD1.1 e; simp [x1] at this <;> omega
        by_cases hA : A.e = 0
        · obtain ⟨rk1, rk2⟩ := rk hA
          first
          | (exfalso; omega)
          | (simp [x1, hA, rk1, hde]; exact .plain (by simp) (by simp [x1, hA, rk1, rk2, hde]))
        · simp [x1, hA, hde]
          exact .plain (by simp) (by simp [x1, hA, hde])
    · skip
      by_cases x1 : 1 ≤ j
      · by_cases x2 : j ≤ 4
        · skip
          by_cases x3 : j = 1
          · subst x3
            have hde : de = 0 := hD1.2 (by simp [ln, hlp ln, x1, x2] <;> omega)
            have hdk := hD2 hde
            subst hde
            by_cases hA : A.e = 0
            · obtain ⟨rk1, rk2⟩ := rk hA
              first
              | (exfalso; omega)
              | (simp [ln, hlp ln, x1, x2, hA, rk1, hdk]; exact .plain (by simp) (by simp [ln, hlp ln, x1, x2, hA, rk1, rk2, hdk]))
            · simp [ln, hlp ln, x1, x2, hA, hdk]
              exact .plain (by simp) (by simp [ln, hlp ln, x1, x2, hA, hdk])
          · skip
            have hde : ¬ de = 0 := fun e => by have := hD1.1 e; simp [ln, hlp ln, x1, x2, x3] at this <;> omega
            by_cases hA : A.e = 0
            · obtain ⟨rk1, rk2⟩ := rk hA
              first
              | (exfalso; omega)
              | (simp [ln, hlp ln, x1, x2, x3, hA, rk1, hde]; exact .plain (by simp) (by simp [ln, hlp ln, x1, x2, x3, hA, rk1, rk2, hde]))
            · simp [ln, hlp ln, x1, x2, x3, hA, hde]
              exact .plain (by simp) (by simp [ln, hlp ln, x1, x2, x3, hA, hde])
        · skip
          have hde : ¬ de = 0 := fun e => by have := hD1.1 e; simp [ln, hlp ln, x1, x2] at this <;> omega
          by_cases hA : A.e = 0
          · obtain ⟨rk1, rk2⟩ := rk hA
            first
            | (exfalso; omega)
            | (simp [ln, hlp ln, x1, x2, hA, rk1, hde]; exact .plain (by simp) (by simp [ln, hlp ln, x1, x2, hA, rk1, rk2, hde]))
          · simp [ln, hlp ln, x1, x2, hA, hde]
            exact .plain (by simp) (by simp [ln, hlp ln, x1, x2, hA, hde])
      · skip
        have hde : ¬ de = 0 := fun e => by have := hD1.1 e; simp [ln, hlp ln, x1] at this <;> omega
        by_cases hA : A.e = 0
        · obtain ⟨rk1, rk2⟩ := rk hA
          first
          | (exfalso; omega)
          | (simp [ln, hlp ln, x1, hA, rk1, hde]; exact .plain (by simp) (by simp [ln, hlp ln, x1, hA, rk1, rk2, hde]))
        · simp [ln, hlp ln, x1, hA, hde]
          exact .plain (by simp) (by simp [ln, hlp ln, x1, hA, hde])
  · by_cases ln : ls = []
    · subst ln
      by_cases x1 : 1 ≤ j
      · by_cases x2 : j ≤ 4
        · skip
          by_cases x3 : j = k
          · subst x3
            have hde : de = 0 := hD1.2 (by simp [k1, x1, x2] <;> omega)
            have hdk := hD2 hde
            subst hde
            by_cases hA : A.e = 0
            · obtain ⟨rk1, rk2⟩ := rk hA
              first
              | (exfalso; omega)
              | (simp [k1, x1, x2, hA, rk1, hdk]; exact .plain (by simp) (by simp [k1, x1, x2, hA, rk1, rk2, hdk]))
            · simp [k1, x1, x2, hA, hdk]
              exact .plain (by simp) (by simp [k1, x1, x2, hA, hdk])
          · skip
            have hde : de = 0 := hD1.2 (by simp [k1, x1, x2, x3] <;> omega)
            have hdk := hD2 hde
            subst hde
            by_cases hA : A.e = 0
            · obtain ⟨rk1, rk2⟩ := rk hA
              first
              | (exfalso; omega)
              | (simp [k1, x1, x2, x3, hA, rk1, hdk]; exact .plain (by simp) (by simp [k1, x1, x2, x3, hA, rk1, rk2, hdk]))
            · simp [k1, x1, x2, x3, hA, hdk]
              exact .plain (by simp) (by simp [k1, x1, x2, x3, hA, hdk])
        · skip
          have hde : ¬ de = 0 := fun e => by have := hD1.1 e; simp [k1, x1, x2] at this <;> omega
          by_cases hA : A.e = 0
          · obtain ⟨rk1, rk2⟩ := rk hA
            first
            | (exfalso; omega)
            | (simp [k1, x1, x2, hA, rk1, hde]; exact .plain (by simp) (by simp [k1, x1, x2, hA, rk1, rk2, hde]))
          · simp [k1, x1, x2, hA, hde]
            exact .plain (by simp) (by simp [k1, x1, x2, hA, hde])
      · skip
        have hde : ¬ de = 0 := fun e => by have := hD1.1 e; simp [k1, x1] at this <;> omega
        by_cases hA : A.e = 0
        · obtain ⟨rk1, rk2⟩ := rk hA
          first
          | (exfalso; omega)
          | (simp [k1, x1, hA, rk1, hde]; exact .plain (by simp) (by simp [k1, x1, hA, rk1, rk2, hde]))
        · simp [k1, x1, hA, hde]
          exact .plain (by simp) (by simp [k1, x1, hA, hde])
    · skip
      by_cases x1 : 1 ≤ j
      · by_cases x2 : j ≤ 4
        · skip
          by_cases x3 : j = k
          · subst x3
            have hde : de = 0 := hD1.2 (by simp [k1, ln, hlp ln, x1, x2] <;> omega)
            have hdk := hD2 hde
            subst hde
            by_cases hA : A.e = 0
            · obtain ⟨rk1, rk2⟩ := rk hA
              first
              | (exfalso; omega)
              | (simp [k1, ln, hlp ln, x1, x2, hA, rk1, hdk]; exact .plain (by simp) (by simp [k1, ln, hlp ln, x1, x2, hA, rk1, rk2, hdk]))
            · simp [k1, ln, hlp ln, x1, x2, hA, hdk]
              exact .plain (by simp) (by simp [k1, ln, hlp ln, x1, x2, hA, hdk])
          · by_cases x6 : j = 4
            · subst x6
              have hde : ¬ de = 0 := fun e => by have := hD1.1 e; simp [k1, ln, hlp ln, x1, x2, x3] at this <;> omega
              by_cases hA : A.e = 0
              · obtain ⟨rk1, rk2⟩ := rk hA
                first
                | (exfalso; omega)
                | (simp [k1, ln, hlp ln, x1, x2, x3, hA, rk1, hde]; exact .plain (by simp) (by simp [k1, ln, hlp ln, x1, x2, x3, hA, rk1, rk2, hde]))
              · simp [k1, ln, hlp ln, x1, x2, x3, hA, hde]
                exact .plain (by simp) (by simp [k1, ln, hlp ln, x1, x2, x3, hA, hde])
            · by_cases x7 : j = 1
              · subst x7
                have hde : ¬ de = 0 := fun e => by have := hD1.1 e; simp [k1, ln, hlp ln, x1, x2, x3] at this <;> omega
                by_cases hA : A.e = 0
                · obtain ⟨rk1, rk2⟩ := rk hA
                  first
                  | (exfalso; omega)
                  | (simp [k1, ln, hlp ln, x1, x2, x3, hA, rk1, hde]; exact .plain (by simp) (by simp [k1, ln, hlp ln, x1, x2, x3, hA, rk1, rk2, hde]))
                · simp [k1, ln, hlp ln, x1, x2, x3, hA, hde]
                  exact .plain (by simp) (by simp [k1, ln, hlp ln, x1, x2, x3, hA, hde])
              · skip
                have hde : de = 0 := hD1.2 (by simp [k1, ln, hlp ln, x1, x2, x3, x6, x7] <;> omega)
                have hdk := hD2 hde
                subst hde
                by_cases hA : A.e = 0
                · obtain ⟨rk1, rk2⟩ := rk hA
                  first
                  | (exfalso; omega)
                  | (simp [k1, ln, hlp ln, x1, x2, x3, x6, x7, hA, rk1, hdk]; exact .plain (by simp) (by simp [k1, ln, hlp ln, x1, x2, x3, x6, x7, hA, rk1, rk2, hdk]))
                · simp [k1, ln, hlp ln, x1, x2, x3, x6, x7, hA, hdk]
                  exact .plain (by simp) (by simp [k1, ln, hlp ln, x1, x2, x3, x6, x7, hA, hdk])
        · skip
          have hde : ¬ de = 0 := fun e => by have := hD1.1 e; simp [k1, ln, hlp ln, x1, x2] at this <;> omega
          by_cases hA : A.e = 0
          · obtain ⟨rk1, rk2⟩ := rk hA
            first
            | (exfalso; omega)
            | (simp [k1, ln, hlp ln, x1, x2, hA, rk1, hde]; exact .plain (by simp) (by simp [k1, ln, hlp ln, x1, x2, hA, rk1, rk2, hde]))
          · simp [k1, ln, hlp ln, x1, x2, hA, hde]
            exact .plain (by simp) (by simp [k1, ln, hlp ln, x1, x2, hA, hde])
      · skip
        have hde : ¬ de = 0 := fun e => by have := hD1.1 e; simp [k1, ln, hlp ln, x1] at this <;> omega
        by_cases hA : A.e = 0
        · obtain ⟨rk1, rk2⟩ := rk hA
          first
          | (exfalso; omega)
          | (simp [k1, ln, hlp ln, x1, hA, rk1, hde]; exact .plain (by simp) (by simp [k1, ln, hlp ln, x1, hA, rk1, rk2, hde]))
        · simp [k1, ln, hlp ln, x1, hA, hde]
          exact .plain (by simp) (by simp [k1, ln, hlp ln, x1, hA, hde])
end Go.Proofs.Ytidaedchmjlbfaa.Sy
