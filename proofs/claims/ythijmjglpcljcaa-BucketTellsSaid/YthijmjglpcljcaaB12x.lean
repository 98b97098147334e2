/- Layer 12: All. -/
import Derived.Test.YthijmjglpcljcaaB12y
import Derived.Test.YthijmjglpcljcaaB12q
namespace Go.Proofs.Ythijmjglpcljcaa.Sy
open Go Go.RowKit Go.Sort
set_option linter.unusedVariables false
set_option linter.unusedSimpArgs false
set_option maxRecDepth 10000
set_option maxHeartbeats 4000000
def pdqP (d : Prs) : Prs := (pdq (ltOf cfP) d.toArray 0 d.toArray.size (Lib.bitLen d.toArray.size) true true).toList
theorem pdqP_ok (d : Prs) : (pdqP d).Perm d ∧ ∀ i j (h1 : i < (pdqP d).length) (h2 : j < (pdqP d).length), i < j → ltB (pdqP d)[j].1 (pdqP d)[i].1 = false := by
  have h := pdq_sorts (ltOf cfP) swoP d.toArray 0 d.toArray.size (Lib.bitLen d.toArray.size) true true (Nat.zero_le _) (Nat.le_refl _) (Or.inl rfl)
  obtain ⟨⟨hs, _, hp⟩, hso⟩ := h
  unfold pdqP
  generalize pdq (ltOf cfP) d.toArray 0 d.toArray.size (Lib.bitLen d.toArray.size) true true = r at hs hp hso
  have hsz : r.size = d.length := by simpa using hs
  constructor
  · have e1 : (r.extract 0 d.toArray.size).toList = r.toList := by
      rw [← hs]; simp
    have e2 : (d.toArray.extract 0 d.toArray.size).toList = d := by simp
    rw [e1, e2] at hp
    exact hp
  · intro i j h1 h2 hij
    rw [Array.length_toList] at h1 h2
    have := hso i j (Nat.zero_le _) hij (by simpa [hsz] using h2)
    rw [ltOf_cfP, getElem!_pos r j h2, getElem!_pos r i h1] at this
    simpa using this
theorem sort_hnone (p : Option Addr) (cap : Nat) (fv : Value) (w : World) : Calls Try.prog 37 #[.slice p 0 cap, fv] w fun e w' => e = .returned (.tuple #[]) ∧ w' = w :=
  AnyF.slices_SortFunc_none Try.sortP p cap fv w
theorem sort_call {d : Prs} (hd : d.length < 1000000) : CallOk Try.prog 37 [.sl 0 2 0 d.length, .clo 38 []] [(0, ⟨53, 2, rowsP d, .cells⟩)] (.tup []) [(0, ⟨53, 2, rowsP (pdqP d), .cells⟩)] := by
  have hsz : ∀ w, (Go.sizeOf 53).run Try.prog w = .ok 2 w := tsize_run (by simp)
  have hag : ∀ w, (isAgg 53).run Try.prog w = .ok true w := fun w => isAgg_run Try.underlying53 w
  refine sort_own (enc := encP) (k := 2) (cf := cfP) (by simp) (fun _ => rfl) (by omega) (fun x v hv => by simp [encP] at hv; rcases hv with rfl | rfl <;> rfl) d (pdqP d) (pdqP_ok d).1.length_eq sort_hnone (fun blk cap w hH hblk => ?_)
  have hcon := AnyQ.slices_SortFunc_eq Try.sortP 2 hag hsz encP (fun _ => rfl) (fun x v hv => by simp [encP] at hv; rcases hv with rfl | rfl <;> rfl) cfP swoP 38 #[] blk 0 cap d.toArray w (fun args w => entersB_run (by simp) args w) (cmp_lays less_call blk 0 d.toArray.size w) hH hblk (by simp; omega)
  refine hcon.mono ?_
  rintro e w' ⟨he, n, os, hw⟩
  exact ⟨he, n, os, by rw [hw]; unfold pdqP; rfl⟩
theorem sort_call0 : CallOk Try.prog 37 [.rd 2 [], .clo 38 []] [] (.tup []) [] := sort_none (by simp) sort_hnone
theorem usedP_take {bs : List Bkt} {i : Nat} {b : Bkt} (hi : i < bs.length) (hb : bs[i] = b) : usedP (bs.take (i + 1)) = usedP (bs.take i) ++ (if b.st = 1 then [(b.lab, b.cell)] else []) := by
  unfold usedP
  rw [List.take_succ_eq_append_getElem hi, hb]
  by_cases h : b.st = 1 <;> simp [h]
theorem usedP_le (bs : List Bkt) : (usedP bs).length ≤ bs.length := by
  unfold usedP; rw [List.length_map]; exact List.length_filter_le _ _
def all_inv (s : Sto) (m : Nat) (st : St) : Prop := ∃ i : Nat, m = s.bs.length - i ∧ i ≤ s.bs.length ∧
  st = ⟨30, [(11, .val (.int .i64 i)), (10, .val (.int .i64 s.bs.length)), (9, .rd 3 (rowsB s.bs)), (2, .sl 72 2 0 (usedP (s.bs.take i)).length), (1, .ref 64 3 0 0)],
    [(64, ⟨31, 3, [[.rd 3 (rowsB s.bs), .val (.int .i64 s.many), .val (.int .i64 s.gone)]], .cells⟩), (72, ⟨53, 2, rowsP (usedP (s.bs.take i)), .cells⟩)], 80⟩
theorem all_call0 (s : Sto) (hl : s.bs.length < 1000000) : CallOk Try.prog 21 [stoP s] [] (.rd 2 (rowsP (if rightB s then pdqP (usedP s.bs) else []))) [] := by
  refine .of_exec Try.func21 rfl (enters_21) rfl rfl (Nat.le_of_ble_eq_true rfl) (fun n _ => rfl) ?_
  simp
  refine .plain (right_call s (by omega)) (by simp) (by simp) ?_
  by_cases h : rightB s = true
  · simp [h]
    refine WPg.loopW (all_inv s) ⟨s.bs.length, _, ?_, ⟨0, by simp, by simp, rfl⟩⟩ ?_
    · refine (Wk.nil [2] [] 53 2).trans ?_
      exact Wk.rn [(64, 64), (136, 72)] rfl (by simp) (by simp [usedP]) (by simp [usedP])
    rintro m st ⟨i, g1, g2, rfl⟩
    by_cases hi : i < s.bs.length
    · have hi' : (i : Int) < s.bs.length := by omega
      have hw : IntKind.i64.wrap ((i : Int) + 1) = ((i + 1 : Nat) : Int) := by rw [w64 (by omega) (by omega)]; omega
      obtain ⟨b, hb⟩ : ∃ b, s.bs[i] = b := ⟨_, rfl⟩
      have hu := usedP_take hi hb
      have hul := usedP_le (s.bs.take i)
      rw [List.length_take] at hul
      by_cases c : b.st = 1
      · rw [if_pos c] at hu
        simp [hi, hi', hb, c, rowB]
        have b1 : (usedP (s.bs.take i)).length ≤ 140737488355327 ∧ ((usedP (s.bs.take i)).length + 1) * 32 ≤ 140737488355328 := by omega
        refine ⟨by decide, fun _ => ⟨b1, fun _ _ => ⟨s.bs.length - (i + 1), by omega, _, ?_, ⟨i + 1, rfl, by omega, rfl⟩⟩⟩⟩
        rw [hw]
        exact Wk.rn [(64, 64), (200, 72)] rfl (by simp) (by simp [hu]) (by simp [hu])
      · rw [if_neg c, List.append_nil] at hu
        simp [hi, hi', hb, c, rowB]
        refine ⟨s.bs.length - (i + 1), by omega, _, ?_, ⟨i + 1, rfl, by omega, rfl⟩⟩
        rw [hw]
        exact Wk.rn [(64, 64), (72, 72)] rfl (by simp) (by simp [hu]) (by simp [hu])
    · obtain rfl : i = s.bs.length := by omega
      have hul := usedP_le s.bs
      simp
      by_cases h0 : usedP s.bs = []
      · have hp : pdqP [] = [] := List.eq_nil_of_length_eq_zero (pdqP_ok []).1.length_eq
        refine .lent [72] sort_call0 (by simp [h0]) (by simp) (by simp [h0]) (by simp) (by simp) (by simp) ?_
        simp
        exact .frz [72] [2] (by simp) (by simp) (by simp) (by simp) (by simp [h0, hp])
      · refine callK.own [] [(72, 0)] (sort_call (d := usedP s.bs) (by omega)) (by simp) (by simp) (by simp) (by simp) (by simp) (by simp [h0]) (by simp) (by simp) (by simp) (by simp) ?_
        simp
        have hlen := (pdqP_ok (usedP s.bs)).1.length_eq
        have ht : List.take (usedP s.bs).length (pdqP (usedP s.bs)) = pdqP (usedP s.bs) := List.take_of_length_le (by omega)
        exact .frz [72] [2] (by simp) (by simp) (by simp [hlen]) (by simp) (by simp [ht])
  · simp [h]
    exact .wk _ (Wk.nilRd 2 [(2, .rd 2 [])] (by simp)) (by simp) (by simp)
theorem keys_nodup {s : Sto} (h : RightI s) : ∀ i, i ≤ s.bs.length → (keysB (s.bs.take i)).Nodup
  | 0, _ => by simp [keysB]
  | i + 1, hi => by
    have hi' : i < s.bs.length := by omega
    rw [keysB_take hi' rfl]
    by_cases c : s.bs[i].st = 1
    · rw [if_pos c]
      have hall := (right_iff s).2 h
      simp only [rightB, Bool.and_eq_true, List.all_eq_true, List.mem_range] at hall
      have hg := hall.2.1
      have hgi := hg i hi'
      have ha := atB_get hi'
      have hf : (findB s.bs s.bs[i].lab).1 = i := by rw [← ha]; exact find_of h.path h.dist hi' (by rw [ha]; exact c)
      have := keys_fresh (b := s.bs[i]) (fun j hj => hg j (by omega)) hi' hf
      refine List.nodup_append.2 ⟨keys_nodup h i (by omega), by simp, fun a ha b hb e => ?_⟩
      rw [List.mem_singleton.1 hb] at e
      rw [e] at ha
      exact this ha
    · rw [if_neg c, List.append_nil]
      exact keys_nodup h i (by omega)
theorem keys_usedP (bs : List Bkt) : (usedP bs).map (·.1) = keysB bs := by
  unfold usedP keysB; rw [List.map_map]; rfl
theorem all_eq (s : Sto) : (if rightB s then pdqP (usedP s.bs) else []) = allS s := by
  unfold allS
  by_cases h : rightB s = true
  · rw [if_pos h, if_pos h]
    have hr := (right_iff s).1 h
    have hn := keys_nodup hr s.bs.length (Nat.le_refl _)
    rw [List.take_length, ← keys_usedP] at hn
    obtain ⟨g1, g2⟩ := ins_all (usedP s.bs) [] List.Pairwise.nil hn (by simp)
    rw [List.append_nil] at g2
    obtain ⟨p1, p2⟩ := pdqP_ok (usedP s.bs)
    exact (byLab_unique g1 p2 (g2.trans p1.symm)).symm
  · rw [if_neg h, if_neg h]
theorem all_call (s : Sto) (hl : s.bs.length < 1000000) : CallOk Try.prog 21 [stoP s] [] (.rd 2 (rowsP (allS s))) [] := by
  rw [← all_eq]; exact all_call0 s hl
end Go.Proofs.Ythijmjglpcljcaa.Sy
