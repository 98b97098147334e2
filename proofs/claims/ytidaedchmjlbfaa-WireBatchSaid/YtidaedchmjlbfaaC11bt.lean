/- Layer 11: the law WireBatch. -/
import Derived.Test.YtidaedchmjlbfaaC11aw
import Derived.Test.YtidaedchmjlbfaaC11z
import Derived.Test.YtidaedchmjlbfaaC10w
namespace Go.Proofs.Ytidaedchmjlbfaa.Sy
open Go Go.RowKit
set_option linter.unusedVariables false
set_option linter.unusedSimpArgs false
set_option maxRecDepth 10000
set_option maxHeartbeats 16000000
def labsN (n : Nat) : List ByteArray := (List.range n).map fun i => labT i
def cellsN (K : Int) (n : Nat) : List ByteArray := if K = 1 then (List.range n).map (fun i : Nat => cellJ (i : Int)) else []
theorem labJ_nat {i : Nat} (h : i < 300) : labJ (i : Int) = labT i := by
  unfold labJ pickI
  rw [if_neg (by omega)]
  congr 1
  omega
theorem labsN_len (n : Nat) : (labsN n).length = n := by simp [labsN]
theorem cellsN_len (n : Nat) : (cellsN 1 n).length = n := by simp [cellsN]
theorem labsN_succ (n : Nat) : labsN (n + 1) = labsN n ++ [labT n] := by simp [labsN, List.range_succ]
theorem cellsN_succ (n : Nat) : cellsN 1 (n + 1) = cellsN 1 n ++ [cellJ n] := by simp [cellsN, List.range_succ]
theorem labsN_size {n : Nat} {x : ByteArray} (h : x ∈ labsN n) : x.size = 16 := by
  obtain ⟨i, _, rfl⟩ := List.mem_map.1 h
  exact labT_size _
theorem cellsN_size {K : Int} {n : Nat} {x : ByteArray} (h : x ∈ cellsN K n) : x.size = 40 := by
  unfold cellsN at h
  split at h
  · obtain ⟨i, _, rfl⟩ := List.mem_map.1 h
    exact cellJ_size _
  · simp at h
theorem labsN_nodup {n : Nat} (h : n ≤ 300) : (labsN n).Nodup := by
  unfold labsN
  unfold List.Nodup
  rw [List.pairwise_map]
  refine List.Pairwise.imp_of_mem (R := fun a b => a < b) (fun {a b} ha hb hab e => ?_) List.pairwise_lt_range
  have h1 := List.mem_range.1 ha
  have h2 := List.mem_range.1 hb
  have := labT_inj (by omega) (by omega) e
  omega
theorem batch_right {K : Int} {n : Nat} (hK : 1 ≤ K ∧ K ≤ 3) (hn : n ≤ 300) : rightQ K (labsN n) (cellsN K n) = decide (n ≤ 200) := by
  have c2 : (labsN n).all (sizeB 16) = true := List.all_eq_true.2 fun x hx => by simp [sizeB, labsN_size hx]
  have c3 : (cellsN K n).all (sizeB 40) = true := List.all_eq_true.2 fun x hx => by simp [sizeB, cellsN_size hx]
  have c4 := labsN_nodup hn
  unfold rightQ
  by_cases h : n ≤ 200
  · rw [if_neg (by rw [c2, c3, labsN_len]; simp [c4]; omega)]
    by_cases k1 : K = 1
    · subst k1
      rw [if_pos rfl, cellsN_len, labsN_len]
      simp [h]
    · have e : cellsN K n = [] := if_neg k1
      rw [if_neg k1, if_neg (by omega), e]
      simp [h]
      omega
  · rw [if_pos (.inl (by rw [labsN_len]; omega))]
    simp [h]
theorem twice_right {K : Int} {L C : List ByteArray} {k : Nat} (h : k + 1 < L.length) : rightQ K (L.set k L[k + 1]) C = false := by
  have hn : ¬ (L.set k L[k + 1]).Nodup := fun hd => by
    have := (List.getElem?_inj (i := k) (j := k + 1) (by rw [List.length_set]; omega) hd).1 (by rw [List.getElem?_set_self (by omega), List.getElem?_set_ne (by omega), List.getElem?_eq_getElem h])
    omega
  unfold rightQ
  rw [if_pos (.inr (.inr (.inr hn)))]
def bt_inv (K : Int) (n : Nat) (at' : Int) (m : Nat) (st : St) : Prop := ∃ i : Nat, m = n - i ∧ i ≤ n ∧
  ((i = 0 ∧ st = ⟨123, [(10, .val (.int .i64 i)), (9, .ref 64 3 0 0), (8, .val (.int .i64 n)), (7, .val (.bool true)), (2, .val (.int .i64 at'))], [(64, reqO K nilP nilP)], 72⟩) ∨
   (0 < i ∧ K = 1 ∧ st = ⟨123, [(10, .val (.int .i64 i)), (9, .ref 64 3 0 0), (8, .val (.int .i64 n)), (7, .val (.bool true)), (2, .val (.int .i64 at'))], [(64, reqO K (.sl 72 1 0 i) (.sl 80 1 0 i)), (72, strO (labsN i)), (80, strO (cellsN 1 i))], 88⟩) ∨
   (0 < i ∧ ¬ K = 1 ∧ st = ⟨123, [(10, .val (.int .i64 i)), (9, .ref 64 3 0 0), (8, .val (.int .i64 n)), (7, .val (.bool true)), (2, .val (.int .i64 at'))], [(64, reqO K (.sl 72 1 0 i) nilP), (72, strO (labsN i))], 88⟩))
def bt_mid (K : Int) (n : Nat) (at' : Int) (st : St) : Prop :=
  st = ⟨123, [(9, .ref 64 3 0 0), (8, .val (.int .i64 n)), (7, .val (.bool true)), (2, .val (.int .i64 at'))], [(64, reqO K (.sl 72 1 0 n) (.rd 1 (strs (cellsN K n)))), (72, strO (labsN n))], 80⟩
theorem batch_call {less kind at' : Int} (hl : isI64 less) (hk : isI64 kind) (ha : isI64 at') :
    CallOk Try.prog 4 [.val (.int .i64 less), .val (.int .i64 kind), .val (.int .i64 at')] [] (.val (.bool true)) [] := by
  refine .of_run Try.func4 rfl (enters_4) rfl rfl (Nat.le_of_ble_eq_true rfl) (fun n _ => rfl) ?_
  have p1 := pickI_range (c := less) (n := 5) (by omega)
  have p2 := pickI_range (c := kind) (n := 3) (by omega)
  obtain ⟨n, hn⟩ : ∃ n : Nat, 198 + pickI less 5 = n := ⟨(198 + pickI less 5).toNat, by omega⟩
  have hn1 : 198 ≤ n ∧ n ≤ 202 := by omega
  have w1 : IntKind.i64.wrap (198 + pickI less 5) = (n : Int) := by rw [← hn]; exact w64 (by omega) (by omega)
  obtain ⟨K, hK⟩ : ∃ K, 1 + pickI kind 3 = K := ⟨_, rfl⟩
  have hK1 : 1 ≤ K ∧ K ≤ 3 := by omega
  have w2 : IntKind.i64.wrap (1 + pickI kind 3) = K := by rw [← hK]; exact w64 (by omega) (by omega)
  have m1 : 1 ≤ maxLen := by decide
  refine WPg.cutW [0, 1, 2, 3, 4] (bt_mid K n at') ?_ ?_
  · simp
    refine .plain awake11_call (by simp) (by simp) ?_
    simp
    refine .plain (pick11_call hl (by omega)) (by simp) (by simp) ?_
    simp [w1]
    refine .plain (pick11_call hk (by omega)) (by simp) (by simp) ?_
    simp [w2]
    refine WPg.loopW (bt_inv K n at') ⟨n, _, ?_, ⟨0, by simp, by simp, .inl ⟨rfl, rfl⟩⟩⟩ ?_
    · exact Wk.rn [(152, 64)] rfl (by simp) (by simp) (by simp)
    rintro m st ⟨i, h1, h2, h3⟩
    by_cases hi : i < n
    · have hi' : (i : Int) < n := by omega
      have hw : IntKind.i64.wrap ((i : Int) + 1) = ((i + 1 : Nat) : Int) := by rw [w64 (by omega) (by omega)]; omega
      have hL := label11_call (n := (i : Int)) ⟨by omega, by omega⟩
      have hC := cell11_call (n := (i : Int)) ⟨by omega, by omega⟩
      rw [labJ_nat (by omega)] at hL
      have h16 : i ≤ 140737488355327 ∧ (i + 1) * 16 ≤ 140737488355328 := by omega
      have s1 := labsN_succ i
      have s2 := cellsN_succ i
      have z1 := labsN_len i
      have z2 := cellsN_len i
      have ht1 : (labsN i).take i = labsN i := List.take_of_length_le (by omega)
      have ht2 : (cellsN 1 i).take i = cellsN 1 i := List.take_of_length_le (by omega)
      rcases h3 with ⟨h4, rfl⟩ | ⟨h4, h5, rfl⟩ | ⟨h4, h5, rfl⟩
      · have q1 : i = 0 → strs (labsN 1) = [[.val (.string (labT i))]] := fun e => by subst e; rfl
        have q2 : i = 0 → strs (cellsN 1 1) = [[.val (.string (cellJ i))]] := fun e => by subst e; rfl
        by_cases k1 : K = 1
        · subst k1
          simp [hi, hi']
          refine .plain hL (by simp) (by simp) ?_
          simp [m1]
          refine ⟨rfl, .plain hC (by simp) (by simp) ?_⟩
          simp [m1]
          refine ⟨rfl, n - 1, by omega, _, ?_, ⟨1, by omega, by omega, .inr (.inl ⟨by omega, rfl, rfl⟩)⟩⟩
          rw [hw]
          subst h4
          exact Wk.rn [(64, 64), (136, 72), (224, 80)] rfl (by simp) (by simp) (by simp; exact ⟨q1 rfl, q2 rfl⟩)
        · simp [hi, hi']
          refine .plain hL (by simp) (by simp) ?_
          simp [m1, k1]
          refine ⟨rfl, n - 1, by omega, _, ?_, ⟨1, by omega, by omega, .inr (.inr ⟨by omega, k1, rfl⟩)⟩⟩
          rw [hw]
          subst h4
          exact Wk.rn [(64, 64), (136, 72)] rfl (by simp) (by simp) (by simp; exact q1 rfl)
      · subst h5
        simp [hi, hi']
        refine .plain hL (by simp) (by simp) ?_
        simp [m1, z1, z2, h16]
        refine ⟨rfl, .plain hC (by simp) (by simp) ?_⟩
        simp [m1, z1, z2, h16]
        refine ⟨rfl, n - (i + 1), by omega, _, ?_, ⟨i + 1, by omega, by omega, .inr (.inl ⟨by omega, rfl, rfl⟩)⟩⟩
        rw [hw]
        exact Wk.rn [(64, 64), (152, 72), (240, 80)] rfl (by simp) (by simp) (by simp [s1, s2, ht1, ht2])
      · simp [hi, hi']
        refine .plain hL (by simp) (by simp) ?_
        simp [m1, h5, z1, z2, h16]
        refine ⟨rfl, n - (i + 1), by omega, _, ?_, ⟨i + 1, by omega, by omega, .inr (.inr ⟨by omega, h5, rfl⟩)⟩⟩
        rw [hw]
        exact Wk.rn [(64, 64), (152, 72)] rfl (by simp) (by simp) (by simp [s1, ht1])
    · obtain rfl : i = n := by omega
      rcases h3 with ⟨h4, rfl⟩ | ⟨h4, h5, rfl⟩ | ⟨h4, h5, rfl⟩
      · omega
      · have z2 := cellsN_len i
        subst h5
        simp
        refine ⟨_, ?_, rfl⟩
        have ht2 : (cellsN 1 i).take i = cellsN 1 i := List.take_of_length_le (by omega)
        refine Wk.trans (Wk.frz [80] (st' := ⟨123, [(9, .ref 64 3 0 0), (8, .val (.int .i64 i)), (7, .val (.bool true)), (2, .val (.int .i64 at'))], [(64, reqO 1 (.sl 72 1 0 i) (.rd 1 (strs (cellsN 1 i)))), (72, strO (labsN i))], _⟩) rfl rfl (by simp) (by simp [z2, ht2]) (by simp [z2, ht2]; intro r hr c hc; obtain ⟨x, _, rfl⟩ := List.mem_map.1 hr; simp at hc; subst hc; trivial)) ?_
        exact Wk.rn [(64, 64), (72, 72)] rfl (by simp) (by simp) (by simp)
      · have e : cellsN K i = [] := if_neg h5
        simp
        refine ⟨_, ?_, rfl⟩
        rw [e]
        refine Wk.trans (Wk.nilRdB 1 [64]) ?_
        exact Wk.rn [(64, 64), (72, 72)] rfl (by simp) (by simp) (by simp [strs_nil])
  rintro st rfl
  dsimp only [tailC]
  refine .run ?_
  have hright := batch_right (K := K) (n := n) hK1 (by omega)
  have hC40 : ∀ x ∈ cellsN K n, x.size = 40 := fun x hx => cellsN_size hx
  have hL16 : ∀ x ∈ labsN n, x.size = 16 := fun x hx => labsN_size hx
  have hLl := labsN_len n
  have hCl : (cellsN K n).length ≤ n := by unfold cellsN; split <;> simp
  generalize labsN n = L at *
  generalize cellsN K n = C at *
  have c1 := Encode_call (k := K) (ls := L) (cs := C) ⟨by omega, by omega⟩ (by omega) (by omega)
  have c2 := Decode_call (encQ K L C).1
  have hp := pickI_range (c := at') (n := (n : Int) - 1) (by omega)
  have w3 : IntKind.i64.wrap ((n : Int) - 1) = n - 1 := w64 (by omega) (by omega)
  have cp := pick11_call (c := at') (n := (n : Int) - 1) ha (by omega)
  obtain ⟨k, hk'⟩ : ∃ k : Nat, pickI at' ((n : Int) - 1) = k := ⟨(pickI at' ((n : Int) - 1)).toNat, by omega⟩
  rw [hk'] at cp hp
  have hk2 : k + 1 < L.length := by omega
  have w4 : IntKind.i64.wrap ((k : Int) + 1) = ((k + 1 : Nat) : Int) := by rw [w64 (by omega) (by omega)]; omega
  obtain ⟨L', hL'⟩ : ∃ L', L.set k L[k + 1] = L' := ⟨_, rfl⟩
  have hr' := twice_right (K := K) (L := L) (C := C) hk2
  rw [hL'] at hr'
  have e' : encQ K L' C = (⟨#[]⟩, 1) := if_neg (by rw [hr']; simp)
  have hL'l : L'.length = n := by rw [← hL', List.length_set]; exact hLl
  have hL'16 : ∀ x ∈ L', x.size = 16 := fun x hx => by
    rw [← hL'] at hx
    rcases List.mem_or_eq_of_mem_set hx with h | h
    · exact hL16 x h
    · rw [h]; exact hL16 _ (List.getElem_mem _)
  have c3 := Encode_call (k := K) (ls := L') (cs := C) ⟨by omega, by omega⟩ (by omega) (by omega)
  rw [e'] at c3
  have z1 := textsB_size hL'16
  have z2 := textsB_size hC40
  have hK0 : (numE K).1 = numS K := by unfold numE; rw [if_neg (by omega)]
  have g1 : (listE L').1 = numS L'.length ++ textsB L' := by rw [listE_ok (by omega) (by omega)]
  have g2 : (listE C).1 = numS C.length ++ textsB C := by rw [listE_ok (by omega) (by omega)]
  have n1 := num10_call (n := K) ⟨by omega, by omega⟩
  have n2 := whole10_call (l := L') (by unfold maxLen; omega) (fun x hx => by rw [hL'16 x hx]; decide)
  have n3 := whole10_call (l := C) (by unfold maxLen; omega) (fun x hx => by rw [hC40 x hx]; decide)
  rw [hK0] at n1
  rw [g1] at n2
  rw [g2] at n3
  have d := dec_of (k := K) (ls := L') (cs := C) rfl (by simp only [ByteArray.size_append, numS_size]; omega) (by omega) (by omega) (by omega) (by omega)
  rw [hr', if_neg (by simp)] at d
  have c4 := Decode_call (numS K ++ (numS L'.length ++ (textsB L' ++ (numS C.length ++ textsB C))))
  rw [d] at c4
  have happ : (numS K ++ (numS L'.length ++ textsB L')) ++ (numS C.length ++ textsB C) = numS K ++ (numS L'.length ++ (textsB L' ++ (numS C.length ++ textsB C))) := by simp only [ByteArray.append_assoc]
  rw [← happ] at c4
  have z3 : (numS L'.length ++ textsB L').size ≤ 10000 := by simp only [ByteArray.size_append, numS_size]; omega
  have z4 : (numS C.length ++ textsB C).size ≤ 10000 := by simp only [ByteArray.size_append, numS_size]; omega
  have z0 := numS_size K
  clear happ d z1 z2 hK0 g1 g2
  generalize numS L'.length ++ textsB L' = T1 at *
  generalize numS C.length ++ textsB C = T2 at *
  generalize numS K = T0 at *
  have s1 := same_call (k := K) (k' := K) (ls := L) (ls' := L) (cs := C) (cs' := C) (by omega) (by omega) (by omega) (by omega)
  simp only [and_self, decide_true] at s1
  simp
  have htk : L.take n = L := List.take_of_length_le (by omega)
  have hnl : n ≤ L.length := by omega
  have htk' : L'.take n = L' := List.take_of_length_le (by omega)
  have hnl' : n ≤ L'.length := by omega
  have b0 : 0 ≤ (k : Int) + 1 := by omega
  have v1 : T0.size + T1.size ≤ 9223372036854775807 := by omega
  have v2 : T0.size + T1.size + T2.size ≤ 9223372036854775807 := by omega
  refine .lent [72] c1 (by simp [hLl, htk]) (by simp) (by simp [hnl]) (by simp) (by simp) (by simp) ?_
  by_cases hn2 : n ≤ 200
  · have hn2' : (n : Int) ≤ 200 := by omega
    have hn3' : ¬ 200 < (n : Int) := by omega
    rw [decide_eq_true hn2] at hright
    rw [dec_enc hright] at c2
    have e0 : (encQ K L C).2 = 0 := by rw [encQ_ok hright]
    rw [e0]
    generalize (encQ K L C).1 = s at *
    simp
    refine .plain c2 (by simp) (by simp) ?_
    simp [hn2', hn2, hn3']
    refine .lent [72] s1 (by simp [hLl, htk]) (by simp) (by simp [hnl]) (by simp) (by simp) (by simp) ?_
    have b1 : k + 1 < n := by omega
    have b2 : k < n := by omega
    have b3 : (k : Int) < n := by omega
    have b4' : (k : Int) + 1 < n := by omega
    have b5 : k + 1 < L.length := by omega
    have b6 : k < L.length := by omega
    simp [w3, hn2', hn2, hn3']
    refine .plain cp (by simp) (by simp) ?_
    simp [w4, b1, b2, b3, b4', b5, b6, hLl, hL']
    refine ⟨b0, fun _ => ⟨rfl, ?_⟩⟩
    refine .lent [72] c3 (by simp [hL'l, htk']) (by simp) (by simp [hnl']) (by simp) (by simp) (by simp) ?_
    simp
    refine .plain n1 (by simp) (by simp) ?_
    simp
    refine callT.own [72] [] n2 (by simp [hL'l, htk']) (by simp [hnl']) (by simp) (by simp) (by simp) (by simp) (by simp) (by simp) (by simp) (by simp) ?_
    simp
    refine ⟨v1, fun _ => callT.plain n3 (by simp) (by simp) ?_⟩
    simp
    refine ⟨v2, fun _ => callT.plain c4 (by simp) (by simp) ?_⟩
    simp
    refine ⟨rfl, ?_⟩
    exact .plain (by simp) (by simp)
  · have hn2' : ¬ (n : Int) ≤ 200 := by omega
    have hn3' : 200 < (n : Int) := by omega
    rw [decide_eq_false hn2] at hright
    have e1 : encQ K L C = (⟨#[]⟩, 1) := if_neg (by rw [hright]; simp)
    rw [e1] at c2 ⊢
    simp only at c2
    generalize decQ ⟨#[]⟩ = D at *
    obtain ⟨dk, dl, dc, de⟩ := D
    simp
    refine .plain c2 (by simp) (by simp) ?_
    simp [hn2', hn2, hn3', w3]
    refine .plain cp (by simp) (by simp) ?_
    have b1 : k + 1 < n := by omega
    have b2 : k < n := by omega
    have b3 : (k : Int) < n := by omega
    have b4' : (k : Int) + 1 < n := by omega
    have b5 : k + 1 < L.length := by omega
    have b6 : k < L.length := by omega
    simp [w4, b1, b2, b3, b4', b5, b6, hLl, hL']
    refine ⟨b0, fun _ => ⟨rfl, ?_⟩⟩
    refine .lent [72] c3 (by simp [hL'l, htk']) (by simp) (by simp [hnl']) (by simp) (by simp) (by simp) ?_
    simp
    refine .plain n1 (by simp) (by simp) ?_
    simp
    refine callT.own [72] [] n2 (by simp [hL'l, htk']) (by simp [hnl']) (by simp) (by simp) (by simp) (by simp) (by simp) (by simp) (by simp) (by simp) ?_
    simp
    refine ⟨v1, fun _ => callT.plain n3 (by simp) (by simp) ?_⟩
    simp
    refine ⟨v2, fun _ => callT.plain c4 (by simp) (by simp) ?_⟩
    simp
    refine ⟨rfl, ?_⟩
    exact .plain (by simp) (by simp)
end Go.Proofs.Ytidaedchmjlbfaa.Sy
