/- Layer 13: the law ServerParts. -/
import Derived.Test.YtbigcojlpcchiaaGreatC13l
namespace Go.Proofs.YtbigcojlpcchiaaGreat.Sy
open Go Go.RowKit
set_option linter.unusedVariables false
set_option linter.unusedSimpArgs false
set_option maxRecDepth 10000
set_option maxHeartbeats 16000000
open Bk (Sto rowsB stoP putS getS delS RightI inB)
theorem mem_zip_take {ls cs : List ByteArray} {k : Nat} {l c : ByteArray} (h : (l, c) ∈ (ls.take k).zip (cs.take k)) : l ∈ ls.take k := (List.of_mem_zip h).1
theorem parts_v {ls cs : List ByteArray} (hq : rightQ 1 ls cs = true) (hl : ls.length ≤ 100) (k : Nat) (hk : k ≤ ls.length) : ∃ (a b d f : Sto) (v w : Int),
    doV (Bk.freshS 8) 100 1 ls cs = (a, ⟨1, 0, [], 0, 0⟩) ∧ doV (Bk.freshS 8) 100 1 (ls.take k) (cs.take k) = (b, ⟨1, 0, [], 0, 0⟩) ∧ doV b 100 1 (ls.drop k) (cs.drop k) = (a, ⟨1, 0, [], 0, 0⟩) ∧
    doV a 100 3 ls [] = (d, ⟨3, 0, [], ls.length, 0⟩) ∧ d.many = 0 ∧ doV a 100 3 (ls.take k) [] = (f, ⟨3, 0, [], v, 0⟩) ∧ doV f 100 3 (ls.drop k) [] = (d, ⟨3, 0, [], w, 0⟩) ∧ v + w = ls.length ∧ (0 ≤ v ∧ 0 ≤ w) ∧ rightV a 100 = true ∧ rightV b 100 = true ∧ rightV f 100 = true ∧ rightV d 100 = true := by
  obtain ⟨f1, f2, f3, f4, f5, f6, f7, g1, _⟩ := right_facts hq
  have hlen := g1 rfl
  have hv0 := new_right (lim := 100) (by omega)
  obtain ⟨hr0, _⟩ := rightV_iff.1 hv0
  have hno : ∀ l c, ¬ inB (Bk.freshS 8).bs l c := Bk.fresh_in 8
  have hm0 : (Bk.freshS 8).many = 0 := rfl
  obtain ⟨s0, hs0⟩ : ∃ s0, Bk.freshS 8 = s0 := ⟨_, rfl⟩
  rw [hs0] at hv0 hr0 hno hm0 ⊢
  have hqt : rightQ 1 (ls.take k) (cs.take k) = true := right_sub hq (List.take_sublist _ _) (List.take_sublist _ _) (.inl ⟨rfl, by rw [List.length_take, List.length_take, hlen]⟩)
  have hqd : rightQ 1 (ls.drop k) (cs.drop k) = true := right_sub hq (List.drop_sublist _ _) (List.drop_sublist _ _) (.inl ⟨rfl, by rw [List.length_drop, List.length_drop, hlen]⟩)
  have hq3 : rightQ 3 ls [] = true := right_sub hq (List.Sublist.refl _) (List.nil_sublist _) (.inr ⟨.inr rfl, rfl⟩)
  have hqt3 : rightQ 3 (ls.take k) [] = true := right_sub hq (List.take_sublist _ _) (List.nil_sublist _) (.inr ⟨.inr rfl, rfl⟩)
  have hqd3 : rightQ 3 (ls.drop k) [] = true := right_sub hq (List.drop_sublist _ _) (List.nil_sublist _) (.inr ⟨.inr rfl, rfl⟩)
  have agree0 : ∀ ls' cs', agreeV s0 ls' cs' := fun ls' cs' l c c' _ hi => absurd hi (hno l c')
  have new0 : ∀ ls' : List ByteArray, newN s0 ls' = ls'.length := fun ls' => newN_all hr0 fun l _ c => hno l c
  have pa := put_done hq hv0 (agree0 ls cs) (by rw [new0, hm0]; omega)
  have pb := put_done hqt hv0 (agree0 (ls.take k) (cs.take k)) (by rw [new0, hm0, List.length_take]; omega)
  have ea := do_of hq hv0
  have eb := do_of hqt hv0
  rw [if_pos rfl, pa] at ea
  rw [if_pos rfl, pb] at eb
  obtain ⟨a1, a2, a3⟩ := puts_v ls cs s0 hr0 f3 f4 hlen f5 (by rw [new0, hm0]; omega)
  obtain ⟨t1, t2, t3, t4, t5, _, _, t6, _⟩ := right_facts hqt
  obtain ⟨b1, b2, b3⟩ := puts_v (ls.take k) (cs.take k) s0 hr0 t3 t4 (t6 rfl) t5 (by rw [new0, hm0, List.length_take]; omega)
  rw [new0, hm0] at a2 b2
  rw [List.length_take] at b2
  have hva : rightV (putsV s0 ls cs) 100 = true := rightV_iff.2 ⟨a1, by omega, by omega, by omega⟩
  have hvb : rightV (putsV s0 (ls.take k) (cs.take k)) 100 = true := rightV_iff.2 ⟨b1, by omega, by omega, by omega⟩
  have hdis : ∀ l ∈ ls.drop k, l ∉ ls.take k := fun l h1 h2 => by
    have := f5
    rw [← List.take_append_drop k ls, List.nodup_append] at this
    exact this.2.2 l h2 l h1 rfl
  have hnob : ∀ l ∈ ls.drop k, ∀ c, ¬ inB (putsV s0 (ls.take k) (cs.take k)).bs l c := fun l hl' c hi => by
    rcases (b3 l c).1 hi with h | ⟨_, h⟩
    · exact hdis l hl' (mem_zip_take h)
    · exact hno l c h
  have pc := put_done hqd hvb (fun l c c' hm hi => absurd hi (hnob l (List.of_mem_zip hm).1 c')) (by rw [newN_all b1 hnob, b2, List.length_drop]; omega)
  have happ := puts_app (ls.take k) (cs.take k) (ls.drop k) (cs.drop k) s0 (by rw [List.length_take, List.length_take, hlen])
  rw [List.take_append_drop, List.take_append_drop] at happ
  rw [← happ] at pc
  have ec := do_of hqd hvb
  rw [if_pos rfl, pc] at ec
  obtain ⟨a, hA⟩ : ∃ a, putsV s0 ls cs = a := ⟨_, rfl⟩
  obtain ⟨b, hB⟩ : ∃ b, putsV s0 (ls.take k) (cs.take k) = b := ⟨_, rfl⟩
  rw [hA] at ea a1 a2 a3 hva ec
  rw [hB] at eb hvb ec
  have hina : ∀ l ∈ ls, ∃ c, inB a.bs l c := fun l hl' => by
    obtain ⟨c, hc⟩ := mem_zip hlen hl'
    exact ⟨c, (a3 l c).2 (.inl hc)⟩
  obtain ⟨d1, d2, d3, d4⟩ := dels_v ls a 0 a1 f5
  obtain ⟨e1, e2, e3, e4⟩ := dels_v (ls.take k) a 0 a1 t5
  rw [hasN_all a1 hina] at d2 d3
  have ed := do_of hq3 hva
  have ef := do_of hqt3 hva
  rw [if_neg (by omega), if_neg (by omega), if_pos rfl] at ed ef
  have hvf : rightV (delsV a (ls.take k) 0).1 100 = true := by have := do_right (k := 3) (ls := ls.take k) (cs := []) hva; rw [ef] at this; exact this
  have hvd : rightV (delsV a ls 0).1 100 = true := by have := do_right (k := 3) (ls := ls) (cs := []) hva; rw [ed] at this; exact this
  have eg := do_of hqd3 hvf
  rw [if_neg (by omega), if_neg (by omega), if_pos rfl] at eg
  have hda := dels_app (ls.take k) (ls.drop k) a 0
  rw [List.take_append_drop] at hda
  obtain ⟨s1, s2⟩ := dels_shift (ls.drop k) (delsV a (ls.take k) 0).1 (delsV a (ls.take k) 0).2
  rw [← hda] at s1 s2
  have hd5 := (right_facts hqd3).2.2.2.2.1
  have cw := dels_count (rightV_iff.1 hvf).1 hd5
  have cv := dels_count a1 t5
  refine ⟨a, b, (delsV a ls 0).1, (delsV a (ls.take k) 0).1, (delsV a (ls.take k) 0).2, (delsV (delsV a (ls.take k) 0).1 (ls.drop k) 0).2, ea, eb, ec, by rw [ed, d3]; simp, by omega, ef, by rw [eg, ← s1], by omega, ⟨cv.1, cw.1⟩, hva, hvb, hvf, hvd⟩
theorem parts_call {raw : List Int} {at' : Int} (hl : raw.length ≤ maxLen) (hr : ∀ n ∈ raw, isI64 n) (ha : isI64 at') :
    CallOk Tryz.prog 8 [.rd 1 (rowsJ raw), .val (.int .i64 at')] [] (.val (.bool true)) [] := by
  refine .of_exec Tryz.func8 rfl (enters_8) rfl rfl (Nat.le_of_ble_eq_true rfl) (fun n _ => rfl) ?_
  have hq := req_right 0 raw
  have hR := request_call (kind := 0) ⟨by omega, by omega⟩ hl hr
  have k1 : reqK 0 = 1 := rfl
  have hll : (reqL 0 raw).length ≤ 12 := by unfold reqL; rw [k1, if_neg (by omega)]; exact (labsJ_len raw).1
  rw [k1] at hq hR
  generalize reqL 0 raw = ls at *
  generalize reqC 0 raw = cs at *
  obtain ⟨f1, f2, f3, f4, f5, f6, f7, g1, _⟩ := right_facts hq
  have hlen := g1 rfl
  have hp := pickI_range (c := at') (n := (ls.length : Int) + 1) (by omega)
  have hpk := pick13_call (c := at') (n := (ls.length : Int) + 1) ha (by omega)
  have w1 : IntKind.i64.wrap ((ls.length : Int) + 1) = ls.length + 1 := w64 (by omega) (by omega)
  obtain ⟨k, hk⟩ : ∃ k : Nat, pickI at' ((ls.length : Int) + 1) = k := ⟨(pickI at' ((ls.length : Int) + 1)).toNat, by omega⟩
  rw [hk] at hpk hp
  obtain ⟨a, b, d, f, v, w, e1, e2, e3, e4, e5, e6, e7, e8, e9, e10, e11, e12, e13⟩ := parts_v hq (by omega) k (by omega)
  have hs := rightI_small (rightV_iff.1 (new_right (lim := 100) (by omega))).1
  have hsa := rightI_small (rightV_iff.1 e10).1
  have hsb := rightI_small (rightV_iff.1 e11).1
  have hsf := rightI_small (rightV_iff.1 e12).1
  have hsd := rightI_small (rightV_iff.1 e13).1
  have hn := snew_call 100
  have e : newV 100 = (Bk.freshS 8, 100, 0) := if_neg (by omega)
  rw [e] at hn
  have c1 := Do_call (s := Bk.freshS 8) (lim := 100) (K := 1) (ls := ls) (cs := cs) hs ⟨by omega, by omega⟩ (by omega) (by omega)
  have c2 := Do_call (s := Bk.freshS 8) (lim := 100) (K := 1) (ls := ls.take k) (cs := cs.take k) hs ⟨by omega, by omega⟩ (by rw [List.length_take]; omega) (by rw [List.length_take]; omega)
  have c3 := Do_call (s := b) (lim := 100) (K := 1) (ls := ls.drop k) (cs := cs.drop k) hsb ⟨by omega, by omega⟩ (by rw [List.length_drop]; omega) (by rw [List.length_drop]; omega)
  have c4 := DoC_call (s := a) (lim := 100) (k := 3) (ls := ls) hsa (by omega) (by omega)
  have c5 := DoC_call (s := a) (lim := 100) (k := 3) (ls := ls.take k) hsa (by omega) (by rw [List.length_take]; omega)
  have c6 := DoC_call (s := f) (lim := 100) (k := 3) (ls := ls.drop k) hsf (by omega) (by rw [List.length_drop]; omega)
  rw [e1] at c1
  rw [e2] at c2
  rw [e3] at c3
  rw [e4] at c4
  rw [e6] at c5
  rw [e7] at c6
  clear e1 e2 e3 e4 e6 e7
  generalize Bk.freshS 8 = s0 at *
  simp
  refine .plain awake13_call (by simp) (by simp) ?_
  simp
  refine .plain hn (by simp) (by simp) ?_
  simp
  refine .plain hR (by simp) (by simp) ?_
  simp [w1]
  refine .plain hpk (by simp) (by simp) ?_
  simp
  have b1 : k ≤ ls.length := by omega
  have b2 : k ≤ cs.length := by omega
  have w2 : IntKind.i64.wrap (ls.length : Int) = ls.length := w64 (by omega) (by omega)
  have ht1 : ls.take ls.length = ls := List.take_length
  have ht2 : cs.take ls.length = cs := List.take_of_length_le (by omega)
  refine .plain c1 (by simp) (by simp) ?_
  simp
  refine ⟨b1, fun _ => ⟨b2, fun _ => callT.plain c2 (by simp) (by simp) ?_⟩⟩
  simp [b1, b2, ht1, ht2]
  refine ⟨rfl, ?_⟩
  refine callT.plain c3 (by simp) (by simp) ?_
  simp
  refine ⟨rfl, .plain (ssame_call hsa) (by simp) (by simp) ?_⟩
  simp
  refine .plain c4 (by simp) (by simp) ?_
  simp [b1, b2, ht1, ht2]
  refine callT.plain c5 (by simp) (by simp) ?_
  simp [b1, b2, ht1, ht2]
  refine ⟨rfl, callT.plain c6 (by simp) (by simp) ?_⟩
  simp [w2, e8]
  refine ⟨rfl, ?_⟩
  refine .plain (ssame_call hsd) (by simp) (by simp) ?_
  simp [e5]
  exact .plain (by simp) (by simp)
end Go.Proofs.YtbigcojlpcchiaaGreat.Sy
