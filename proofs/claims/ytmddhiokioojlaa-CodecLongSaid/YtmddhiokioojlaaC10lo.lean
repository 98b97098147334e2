/- Layer 10: the law CodecLong. -/
import Derived.Test.YtmddhiokioojlaaC10aw
import Derived.Test.YtmddhiokioojlaaC10lp
namespace Go.Proofs.Ytmddhiokioojlaa.Sy
open Go Go.RowKit
set_option linter.unusedVariables false
set_option linter.unusedSimpArgs false
set_option maxRecDepth 10000
set_option maxHeartbeats 16000000
theorem reps (n : Nat) : List.replicate n [PV.val (.string ⟨#[]⟩)] = strs (List.replicate n ⟨#[]⟩) := by simp [rowsV]
theorem empty_size : (⟨#[]⟩ : ByteArray).size = 0 := rfl
theorem listR_none : ∀ (n : Nat) (acc : ByteArray), acc.size + 4 * n ≤ 65536 → ∃ b, listR (List.replicate n ⟨#[]⟩) acc = some b ∧ b.size = acc.size + 4 * n
  | 0, acc, h => ⟨acc, rfl, by omega⟩
  | n + 1, acc, h => by
    have e : (acc ++ (numS ((⟨#[]⟩ : ByteArray).size : Nat) ++ ⟨#[]⟩)).size = acc.size + 4 := by rw [ByteArray.size_append, ByteArray.size_append, numS_size, empty_size]
    rw [List.replicate_succ, listR_cons, if_neg (by rw [empty_size]; omega)]
    obtain ⟨b, h1, h2⟩ := listR_none n (acc ++ (numS ((⟨#[]⟩ : ByteArray).size : Nat) ++ ⟨#[]⟩)) (by rw [e]; omega)
    exact ⟨b, h1, by rw [h2, e]; omega⟩
theorem list_none {n : Nat} (h : n ≤ 1002) : (∃ b, listE (List.replicate n ⟨#[]⟩) = (b, 0) ∧ n ≤ 1000 ∧ b.size = 4 + 4 * n) ∨ (listE (List.replicate n ⟨#[]⟩) = (⟨#[]⟩, 2) ∧ 1000 < n) := by
  unfold listE
  rw [List.length_replicate]
  by_cases c : 1000 < n
  · rw [if_pos c]; exact .inr ⟨rfl, c⟩
  · rw [if_neg c]
    obtain ⟨b, h1, h2⟩ := listR_none n (numS n) (by rw [numS_size]; omega)
    rw [h1]
    exact .inl ⟨b, rfl, by omega, by rw [h2, numS_size]⟩
theorem list_one {z : ByteArray} {k : Nat} (hz : z.size = k) : (∃ b, listE [z] = (b, 0) ∧ k + 8 ≤ 65536 ∧ b.size = k + 8) ∨ (listE [z] = (⟨#[]⟩, 2) ∧ 65536 < k + 8) := by
  unfold listE
  rw [if_neg (by simp), listR_cons, numS_size]
  by_cases c : 65536 < k + 8
  · rw [if_pos (by omega)]; exact .inr ⟨rfl, c⟩
  · rw [if_neg (by omega)]
    refine .inl ⟨_, rfl, by omega, ?_⟩
    simp [numS_size]; omega
theorem long_call {a b : Int} (ha : isI64 a) (hb : isI64 b) : CallOk Try.prog 6 [.val (.int .i64 a), .val (.int .i64 b)] [] (.val (.bool true)) [] := by
  refine .of_exec Try.func6 rfl (enters_6) rfl rfl (Nat.le_of_ble_eq_true rfl) (fun n _ => rfl) ?_
  simp
  refine .plain awake10_call (by simp) (by simp) ?_
  simp
  refine .plain (pick10_call ha (by omega)) (by simp) (by simp) ?_
  have hr := pickI_range (c := a) (n := 5) (by omega)
  have hq := pickI_range (c := b) (n := 20) (by omega)
  obtain ⟨n, hn⟩ : ∃ n : Nat, 998 + pickI a 5 = n := ⟨(998 + pickI a 5).toNat, by omega⟩
  obtain ⟨k, hk⟩ : ∃ k : Nat, 65526 + pickI b 20 = k := ⟨(65526 + pickI b 20).toNat, by omega⟩
  have w1 : IntKind.i64.wrap (998 + pickI a 5) = n := by rw [w64 (by omega) (by omega)]; exact hn
  have w2 : IntKind.i64.wrap (65526 + pickI b 20) = k := by rw [w64 (by omega) (by omega)]; exact hk
  have hn' : 998 ≤ n ∧ n ≤ 1002 := by omega
  have hk' : 65526 ≤ k ∧ k ≤ 65545 := by omega
  have mn : n ≤ maxLen := by unfold maxLen; omega
  have mk : k ≤ maxLen := by unfold maxLen; omega
  simp [w1]
  refine .plain (pick10_call hb (by omega)) (by simp) (by simp) ?_
  have g1 : 16 * (n : Int) ≤ 281474976710656 ∧ (n : Int) ≤ 9223372036854775807 := by omega
  have cl := List_call (l := List.replicate n ⟨#[]⟩) (by simpa using mn) (fun x hx => by rw [List.eq_of_mem_replicate hx]; decide)
  simp [w2, mn, mk, reps]
  refine ⟨g1, fun _ _ => ?_⟩
  refine .lent [160] cl (by simp) (by simp) (by simp) (by simp) (by simp) (by simp) ?_
  obtain ⟨z, hz⟩ : ∃ z, strOfNums (List.replicate k 0) = z := ⟨_, rfl⟩
  have hzs : z.size = k := by rw [← hz]; simp [strOfNums_size]
  have g2 : (k : Int) ≤ 281474976710656 ∧ (k : Int) ≤ 9223372036854775807 := by omega
  simp [numsOf_zero, g2, hz]
  refine .plain (Text_call (s := z) (by rw [hzs]; exact mk)) (by simp) (by simp) ?_
  simp [numsOf_zero, g2, hz]
  have c1 := List_call (l := [z]) (by simp; decide) (fun x hx => by rw [List.mem_singleton.1 hx, hzs]; exact mk)
  have m1 : 1 ≤ maxLen ∧ 4 ≤ maxLen ∧ 4 * n ≤ maxLen := by unfold maxLen; omega
  simp only [m1.1, true_and, forall_const]
  refine .lent [312] c1 (by simp [rowsV]) (by simp) (by simp) (by simp) (by simp) (by simp) ?_
  have u1 : IntKind.i64.wrap ((n : Int) / 256) = (n : Int) / 256 := w64 (by omega) (by omega)
  have u2 : IntKind.u8.wrap ((n : Int) / 256) = (n : Int) / 256 := by rw [IntKind.wrap_u8]; omega
  have u3 : (n : Int).tmod 256 = (n : Int) % 256 := Int.tmod_eq_emod_of_nonneg (by omega)
  have u4 : IntKind.u8.wrap ((n : Int) % 256) = (n : Int) % 256 := by rw [IntKind.wrap_u8]; omega
  obtain ⟨q, hq4⟩ : ∃ q : Nat, 4 * n = q := ⟨_, rfl⟩
  have u5 : IntKind.i64.wrap (4 * (n : Int)) = (q : Int) := by rw [w64 (by omega) (by omega)]; omega
  obtain ⟨h, hh⟩ : ∃ h, hdr ((n : Int) / 256) ((n : Int) % 256) q = h := ⟨_, rfl⟩
  have hhs : h.size = 4 + q := by rw [← hh, hdr_size]
  have g3 : (q : Int) ≤ 281474976710656 ∧ (q : Int) ≤ 9223372036854775807 := by omega
  have g4 : (strOfNums [0, 0, (n : Int) / 256, (n : Int) % 256]).size + (strOfNums (List.replicate q 0)).size ≤ 9223372036854775807 := by simp [strOfNums_size]; omega
  have hl := hdr_list (n := n) (by omega)
  rw [hq4, hh] at hl
  rw [hdr] at hh
  simp [w2, mn, mk, numsOf_zero, g2, g3, g4, hz, m1, u1, u2, u3, u4, u5, numsOf, hh]
  refine .plain (TakeList_call h 0) (by simp) (by simp) ?_
  simp [numsOf_zero, g2, hz, mk]
  refine ⟨rfl, ?_⟩
  refine .plain (TakeNumber_call z 0) (by simp) (by simp) ?_
  have ht := tNum_zero k (by omega)
  rw [hz] at ht
  have v1 : IntKind.i64.wrap ((k : Int) + 8) = (k : Int) + 8 := w64 (by omega) (by omega)
  have v2 : IntKind.i64.wrap ((k : Int) + 4) = (k : Int) + 4 := w64 (by omega) (by omega)
  have v3 : IntKind.i64.wrap (4 + (q : Int)) = 4 + (q : Int) := w64 (by omega) (by omega)
  rcases list_none (n := n) (by omega) with ⟨x1, p1, p2, p3⟩ | ⟨p1, p2⟩
  all_goals rcases text_zero k with ⟨y1, r1, r2, r3⟩ | ⟨r1, r2⟩
  all_goals rcases list_one hzs with ⟨z1, s1, s2, s3⟩ | ⟨s1, s2⟩
  all_goals rw [hz] at r1
  · have P1 : (n : Int) ≤ 1000 := by omega
    have R1 : (k : Int) ≤ 65536 := by omega
    have S1 : (k : Int) + 8 ≤ 65536 := by omega
    have P3 : x1.size = 4 + q := by omega
    have r4 : (y1.size : Int) = k + 4 := by omega
    have s4 : (z1.size : Int) = k + 8 := by omega
    simp [p1, p2, P1, P3, r1, r2, R1, r4, s1, s4, S1, hl, ht, v1, v2, v3, u5]
    exact .plain (by simp) (by simp)
  · have P1 : (n : Int) ≤ 1000 := by omega
    have R1 : (k : Int) ≤ 65536 := by omega
    have S1 : 65536 < (k : Int) + 8 := by omega
    have P3 : x1.size = 4 + q := by omega
    have r4 : (y1.size : Int) = k + 4 := by omega
    simp [p1, p2, P1, P3, r1, r2, R1, r4, s1, S1, hl, ht, v1, v2, v3, u5]
    exact .plain (by simp) (by simp)
  · exact absurd r2 (by omega)
  · have P1 : (n : Int) ≤ 1000 := by omega
    have R1 : 65536 < (k : Int) := by omega
    have R2 : ¬ k ≤ 65536 := by omega
    have S1 : 65536 < (k : Int) + 8 := by omega
    have P3 : x1.size = 4 + q := by omega
    simp [p1, p2, P1, P3, r1, r2, R1, R2, s1, S1, hl, ht, v1, v2, v3, u5]
    exact .plain (by simp) (by simp)
  · have P1 : 1000 < (n : Int) := by omega
    have P2 : ¬ n ≤ 1000 := by omega
    have R1 : (k : Int) ≤ 65536 := by omega
    have S1 : (k : Int) + 8 ≤ 65536 := by omega
    have r4 : (y1.size : Int) = k + 4 := by omega
    have s4 : (z1.size : Int) = k + 8 := by omega
    simp [p1, p2, P1, P2, r1, r2, R1, r4, s1, s4, S1, hl, ht, v1, v2, v3, u5]
    exact .plain (by simp) (by simp)
  · have P1 : 1000 < (n : Int) := by omega
    have P2 : ¬ n ≤ 1000 := by omega
    have R1 : (k : Int) ≤ 65536 := by omega
    have S1 : 65536 < (k : Int) + 8 := by omega
    have r4 : (y1.size : Int) = k + 4 := by omega
    simp [p1, p2, P1, P2, r1, r2, R1, r4, s1, S1, hl, ht, v1, v2, v3, u5]
    exact .plain (by simp) (by simp)
  · exact absurd r2 (by omega)
  · have P1 : 1000 < (n : Int) := by omega
    have P2 : ¬ n ≤ 1000 := by omega
    have R1 : 65536 < (k : Int) := by omega
    have R2 : ¬ k ≤ 65536 := by omega
    have S1 : 65536 < (k : Int) + 8 := by omega
    simp [p1, p2, P1, P2, r1, r2, R1, R2, s1, S1, hl, ht, v1, v2, v3, u5]
    exact .plain (by simp) (by simp)
end Go.Proofs.Ytmddhiokioojlaa.Sy
