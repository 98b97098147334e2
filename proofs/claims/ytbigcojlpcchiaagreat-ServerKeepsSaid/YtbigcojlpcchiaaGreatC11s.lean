/- Layer 11: the same requests; the law's requests may be. -/
import Derived.Test.YtbigcojlpcchiaaGreatC11u
namespace Go.Proofs.YtbigcojlpcchiaaGreat.Sy
open Go Go.RowKit
set_option linter.unusedVariables false
set_option linter.unusedSimpArgs false
set_option maxRecDepth 10000
set_option maxHeartbeats 4000000
def texts_inv (l r : List ByteArray) (m : Nat) (st : St) : Prop := ∃ i : Nat, m = l.length - i ∧ i ≤ l.length ∧ l.take i = r.take i ∧
  st = ⟨26, [(5, .val (.int .i64 i)), (1, .rd 1 (strs r)), (0, .rd 1 (strs l))], [], 64⟩
theorem texts11_call (l r : List ByteArray) (hl : l.length ≤ 4294967296) (hr : r.length ≤ 4294967296) : CallOk Tryz.prog 42 [.rd 1 (strs l), .rd 1 (strs r)] [] (.val (.bool (decide (l = r)))) [] := by
  refine .of_exec Tryz.func42 rfl (enters_42) rfl rfl (Nat.le_of_ble_eq_true rfl) (fun n _ => rfl) ?_
  by_cases hn : l.length = r.length
  · have hn' : (l.length : Int) = r.length := by omega
    simp [hn, hn']
    refine WPg.loopW (texts_inv l r) ⟨l.length, _, ?_, ⟨0, by simp, by simp, by simp, rfl⟩⟩ ?_
    · exact Wk.rn [] rfl (by simp) (by simp) (by simp)
    rintro m st ⟨i, h1, h2, h3, rfl⟩
    by_cases hi : i < l.length
    · have hi' : (i : Int) < l.length := by omega
      have hir : i < r.length := by omega
      have hir' : (i : Int) < r.length := by omega
      have hw : IntKind.i64.wrap ((i : Int) + 1) = ((i + 1 : Nat) : Int) := by rw [w64 (by omega) (by omega)]; omega
      obtain ⟨x, hx⟩ : ∃ x, l[i] = x := ⟨_, rfl⟩
      obtain ⟨y, hy⟩ : ∃ y, r[i] = y := ⟨_, rfl⟩
      have t1 : l.take (i + 1) = l.take i ++ [x] := by rw [List.take_add_one, List.getElem?_eq_getElem hi, hx]; rfl
      have t2 : r.take (i + 1) = r.take i ++ [y] := by rw [List.take_add_one, List.getElem?_eq_getElem hir, hy]; rfl
      by_cases hxy : x = y
      · simp [hi, hi', hir, hir', hx, hy, hxy]
        refine ⟨rfl, l.length - (i + 1), by omega, _, ?_, ⟨i + 1, rfl, by omega, by rw [t1, t2, h3, hxy], rfl⟩⟩
        rw [hw]
        exact Wk.rn [] rfl (by simp) (by simp) (by simp)
      · have hne : l ≠ r := fun e => hxy (by rw [← hx, ← hy]; subst e; rfl)
        simp [hi, hi', hir, hir', hx, hy, hxy]
        refine ⟨rfl, ?_⟩
        exact .plain (by simp) (by simp [hne])
    · obtain rfl : i = l.length := by omega
      have he : l = r := by rw [List.take_length, hn, List.take_length] at h3; exact h3
      simp
      exact .plain (by simp) (by simp [he])
  · have hn' : ¬ (l.length : Int) = r.length := by omega
    have hne : l ≠ r := fun e => hn (by rw [e])
    simp [hn, hn']
    exact .plain (by simp) (by simp [hne])
theorem labF_ok : ∀ (l : List Int) (out : List ByteArray), out.Nodup → (∀ x ∈ out, x.size = 16) → (labF l out).Nodup ∧ ∀ x ∈ labF l out, x.size = 16
  | [], out, h1, h2 => ⟨h1, h2⟩
  | n :: r, out, h1, h2 => by
    rw [labF]
    split
    · exact labF_ok r out h1 h2
    · rename_i c
      refine labF_ok r _ ?_ fun x hx => ?_
      · refine List.nodup_append.2 ⟨h1, List.nodup_cons.2 ⟨by simp, List.Pairwise.nil⟩, fun a ha b hb => ?_⟩
        rw [List.mem_singleton.1 hb]
        intro e
        refine c ?_
        unfold hasL
        exact List.any_eq_true.2 ⟨a, ha, decide_eq_true e⟩
      · rcases List.mem_append.1 hx with h | h
        · exact h2 x h
        · rw [List.mem_singleton.1 h]; exact labJ_size n
theorem req_right (kind : Int) (raw : List Int) : rightQ (reqK kind) (reqL kind raw) (reqC kind raw) = true := by
  have hp := pickI_range (c := kind) (n := 4) (by omega)
  have hlen := labsJ_len raw
  have hk : 1 ≤ reqK kind ∧ reqK kind ≤ 4 := by unfold reqK; omega
  obtain ⟨hd, hs⟩ := labF_ok (raw.take 12) [] List.Pairwise.nil (by simp)
  have hL : reqL kind raw = if reqK kind = 4 then [] else labsJ raw := rfl
  have hC : reqC kind raw = if reqK kind = 1 then (raw.map cellJ).take (labsJ raw).length else [] := rfl
  rw [← labsJ] at hd hs
  have a1 : (reqL kind raw).length ≤ 200 := by
    rw [hL]
    split
    · exact Nat.zero_le _
    · omega
  have a2 : (reqL kind raw).all (sizeB 16) = true := by
    refine List.all_eq_true.2 fun x hx => ?_
    have : x.size = 16 := by rw [hL] at hx; split at hx; · simp at hx
                             · exact hs x hx
    simp [sizeB, this]
  have a3 : (reqC kind raw).all (sizeB 40) = true := by
    refine List.all_eq_true.2 fun x hx => ?_
    have : x.size = 40 := by
      rw [hC] at hx
      split at hx
      · obtain ⟨n, _, rfl⟩ := List.mem_map.1 (List.mem_of_mem_take hx)
        exact cellJ_size n
      · simp at hx
    simp [sizeB, this]
  have a4 : (reqL kind raw).Nodup := by rw [hL]; split; · simp
                                        · exact hd
  unfold rightQ
  rw [if_neg (by rw [a2, a3]; simp [a4]; omega)]
  by_cases k1 : reqK kind = 1
  · rw [if_pos k1, hL, hC, if_pos k1, if_neg (by omega)]
    simp
    omega
  · rw [if_neg k1]
    by_cases k4 : reqK kind = 4
    · rw [if_pos k4, hL, hC, if_pos k4, if_neg k1]
      simp
    · rw [if_neg k4, hC, if_neg k1]
      simp
      omega
end Go.Proofs.YtbigcojlpcchiaaGreat.Sy
