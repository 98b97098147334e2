/- WordsSigns, in plain words: a byte's sign is its own sign; a text of one sign is one word, or none. -/
import Derived.Test.YtpmjnggkhjjiaaaWordsHelp
import Derived.Test.YtpmjnggkhjjiaaaAx13
import Derived.OpenShut
namespace Go.Proofs.Ytpmjnggkhjjiaaa.Pure
open Go.RowKit Go.Proofs.Ytpmjnggkhjjiaaa.A Go.Proofs.YtpmjnggkhjjiaaaW.PrintWords Go.Proofs.YtpmjnggkhjjiaaaW.PrintLast Go.Proofs.YtpmjnggkhjjiaaaW.PrintMore
set_option linter.unusedVariables false
set_option linter.unusedSimpArgs false

theorem bounds_u8 {n : Int} (h : (Lit.int .u8 n).wf = true) : 0 ≤ n ∧ n ≤ 255 := by
  simp only [Lit.wf, Bool.and_eq_true, decide_eq_true_eq] at h
  exact h
theorem rep_byte {b : Int} (hb : Byte b) (n : Nat) : ∀ c ∈ List.replicate n b, Byte c := fun c hc => by rw [(List.mem_replicate.1 hc).2]; exact hb
theorem foldl_none {b : Int} (h : signOf b = 0) : ∀ (n : Nat) (acc : List ByteArray), (List.replicate n b).foldl wstep ([], acc) = ([], acc)
  | 0, acc => rfl
  | n + 1, acc => by
    rw [List.replicate_succ, List.foldl_cons, wstep_eq, if_pos h]
    have : acc ++ flush [] = acc := by simp [flush]
    rw [this]
    exact foldl_none h n acc
theorem foldl_some {b : Int} (h : signOf b ≠ 0) : ∀ (n : Nat) (p : List Int) (acc : List ByteArray), (List.replicate n b).foldl wstep (p, acc) = (p ++ List.replicate n (signOf b), acc)
  | 0, p, acc => by simp
  | n + 1, p, acc => by
    rw [List.replicate_succ, List.foldl_cons, wstep_eq, if_neg h, foldl_some h n]
    simp [List.replicate_succ]
theorem words_rep {b : Int} (hb : Byte b) (n : Nat) : wordsOf (strOfNums (List.replicate n b)) = if signOf b = 0 then [] else flush (List.replicate n (signOf b)) := by
  rw [wordsOf_eq, bytesOf_strOfNums (rep_byte hb n), List.foldl_append]
  have h0 : signOf 0 = 0 := by decide
  split
  · rename_i h
    rw [foldl_none h, List.foldl_cons, List.foldl_nil, wstep_eq, if_pos h0]
    simp [flush]
  · rename_i h
    rw [foldl_some h, List.foldl_cons, List.foldl_nil, wstep_eq, if_pos h0]
    simp
theorem may_rep {b : Int} (hb : Byte b) (n : Nat) : mayOf (strOfNums (List.replicate n b)) = true ↔ (n ≠ 0 → b ≠ 0 ∧ signOf b = b) ∧ 2 ≤ n ∧ n ≤ 20 := by
  unfold mayOf
  rw [bytesOf_strOfNums (rep_byte hb n), strOfNums_size, List.length_replicate]
  simp only [Bool.and_eq_true, decide_eq_true_eq]
  constructor
  · rintro ⟨h1, h2, h3⟩
    exact ⟨fun hn => h1 b (List.mem_replicate.2 ⟨hn, rfl⟩), by omega, by omega⟩
  · rintro ⟨h1, h2, h3⟩
    refine ⟨fun c hc => ?_, by omega, by omega⟩
    obtain ⟨hn, rfl⟩ := List.mem_replicate.1 hc
    exact h1 hn
theorem signs_loop (b : Int) (hb : Byte b) (n : Nat) (hn : n < 30) : ∀ (d : Nat) (i : Int) (k : Nat), 0 ≤ i → (n : Int) - i = d → d + 5000 ≤ k →
    columbariumlaw16_WordsSigns.l0 k b true (signOf b) n (List.replicate i.toNat b) i = some true
  | d + 1, i, k, h0, hd, hk => by
    obtain ⟨k, rfl⟩ : ∃ m, k = m + 1 := ⟨k - 1, by omega⟩
    rw [columbariumlaw16_WordsSigns.l0, if_pos (by omega), if_pos (by simp; omega), wrap64_id (by omega) (by omega)]
    have e : List.replicate i.toNat b ++ [b] = List.replicate (i + 1).toNat b := by
      rw [show (i + 1).toNat = i.toNat + 1 by omega, List.replicate_succ']
    rw [e]
    exact signs_loop b hb n hn d (i + 1) k (by omega) (by omega) (by omega)
  | 0, i, k, h0, hd, hk => by
    obtain ⟨k, rfl⟩ : ∃ m, k = m + 1 := ⟨k - 1, by omega⟩
    obtain rfl : i = n := by omega
    rw [columbariumlaw16_WordsSigns.l0, if_neg (by omega), Int.toNat_natCast, split_le (by rw [strOfNums_size, List.length_replicate]; omega), words_rep hb n]
    simp only [Option.bind_some, if_true]
    have hsz : (strOfNums (List.replicate n b)).size ≤ 4096 := by rw [strOfNums_size, List.length_replicate]; omega
    by_cases hs : signOf b = 0
    · have hm : mayOf (strOfNums (List.replicate n b)) = false := by
        rw [← Bool.not_eq_true, may_rep hb]
        rintro ⟨h1, h2, h3⟩
        have := h1 (by omega)
        omega
      rw [if_pos hs]
      simp only [hs, if_true, List.length_nil]
      rw [if_pos (by decide), may_eq _ k hsz (by omega), hm]
      rfl
    · have hg := signOf_good hs
      have hgb := good_byte hg
      rw [if_neg hs, if_neg hs, sign_eq k (signOf b) (by omega) hgb.1 hgb.2, hg.1]
      simp only [Option.bind_some, if_true]
      by_cases h2 : n < 2
      · have hm : mayOf (strOfNums (List.replicate n b)) = false := by
          rw [← Bool.not_eq_true, may_rep hb]
          rintro ⟨h1, h2, h3⟩
          omega
        have hf : flush (List.replicate n (signOf b)) = [] := by unfold flush; rw [if_neg (by rw [List.length_replicate]; omega)]
        rw [if_pos (by omega), hf]
        simp only [List.length_nil]
        rw [if_pos (by decide), may_eq _ k hsz (by omega), hm]
        rfl
      · have hf : flush (List.replicate n (signOf b)) = [strOfNums (List.replicate (min 20 n) (signOf b))] := by
          unfold flush; rw [if_pos (by rw [List.length_replicate]; omega), List.take_replicate]
        rw [if_neg (by omega), hf]
        have hr : rdOf ByteArray.empty [strOfNums (List.replicate (min 20 n) (signOf b))] 0 = strOfNums (List.replicate (min 20 n) (signOf b)) := rfl
        simp only [List.length_singleton]
        rw [if_pos (by decide), if_pos (by decide), hr, strOfNums_size, List.length_replicate]
        have hmn : ((min 20 n : Nat) : Int) = mn (n : Int) 20 := by unfold mn; split <;> omega
        rw [if_pos hmn]
        have hm1 : mayOf (strOfNums (List.replicate (min 20 n) (signOf b))) = true := by
          rw [may_rep hgb]
          exact ⟨fun _ => ⟨hs, hg.1⟩, by omega, by omega⟩
        rw [may_eq _ k (by rw [strOfNums_size, List.length_replicate]; omega) (by omega), hm1]
        simp only [Option.bind_some, if_true]
        rw [may_eq _ k hsz (by omega)]
        simp only [Option.bind_some]
        have hgr : greatOf (strOfNums [signOf b]) = strOfNums [greatB (signOf b)] := by
          unfold greatOf; rw [bytesOf_strOfNums (by intro c hc; rw [List.mem_singleton.1 hc]; exact hgb)]; rfl
        have hgrB : Byte (greatB (signOf b)) := by have h1 := hg.2.1; have h2 := hg.2.2; unfold Byte greatB; split <;> omega
        have hbt : bt (strOfNums [greatB (signOf b)]) 0 = greatB (signOf b) := by
          rw [← rd_bytesOf, bytesOf_strOfNums (by intro c hc; rw [List.mem_singleton.1 hc]; exact hgrB)]; rfl
        have hlast : ((columbariumlaw16_great.f k (strOfNums [signOf b])).bind fun t324 => (if 0 < (t324.size : Int) then ((words_Sign.f k (bt t324 0)).bind fun t325 => (some (t325 == signOf b))) else (none))) = some true := by
          rw [great_eq _ k (by rw [strOfNums_size]; simp) (by omega), hgr]
          simp only [Option.bind_some]
          rw [if_pos (by rw [strOfNums_size]; simp), hbt, sign_eq k _ (by omega) hgrB.1 hgrB.2, signOf_great, hg.1]
          simp
        by_cases he : signOf b = b
        · have hm2 : mayOf (strOfNums (List.replicate n b)) = decide ((n : Int) ≤ 20) := by
            rw [Bool.eq_iff_iff, may_rep hb, decide_eq_true_eq]
            constructor
            · rintro ⟨_, _, h⟩; omega
            · intro h; exact ⟨fun _ => ⟨by rw [← he]; exact hs, he⟩, by omega, by omega⟩
          rw [if_pos he, hm2, if_pos (by simp)]
          exact hlast
        · have hm2 : mayOf (strOfNums (List.replicate n b)) = false := by
            rw [← Bool.not_eq_true, may_rep hb]
            rintro ⟨h1, h2, h3⟩
            exact he (h1 (by omega)).2
          rw [if_neg he, hm2, if_pos (by simp)]
          exact hlast

theorem WordsSigns : ∀ (a0 : Int) (a1 : Int), (Lit.int .u8 a0).wf = true → (Lit.int .i64 a1).wf = true → ∃ k, columbariumlaw16_WordsSigns.f k a0 a1 = some true := by
  intro a0 a1 w0 w1
  refine ⟨6000, ?_⟩
  have hb : Byte a0 := bounds_u8 w0
  obtain ⟨n, hn, n0, n1⟩ := pick_ok a1 30 (bounds_i64 w1) (by omega)
  unfold columbariumlaw16_WordsSigns.f
  rw [awake_ok 6000 (by omega)]
  simp only [Option.bind_some]
  rw [sign_eq 6000 a0 (by omega) hb.1 hb.2, hn]
  simp only [Option.bind_some]
  obtain ⟨m, rfl⟩ := Int.eq_ofNat_of_zero_le n0
  exact signs_loop a0 hb m (by omega) m 0 6000 (by omega) (by omega) (by omega)
end Go.Proofs.Ytpmjnggkhjjiaaa.Pure
