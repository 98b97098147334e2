-- Written by program (this session's myprint.py over the kit's print.py). Not trusted: Lean checks it.
import Derived.Test.YtpmjnggkhjjiaaaAx0
import Derived.Test.YtpmjnggkhjjiaaaAx5
import Derived.Test.YtpmjnggkhjjiaaaAx6
import Derived.Test.YtpmjnggkhjjiaaaHandSplit
namespace Go.Proofs.Ytpmjnggkhjjiaaa.A
open Go.RowKit Go.Proofs.YtpmjnggkhjjiaaaW.PrintWords Go.Proofs.YtpmjnggkhjjiaaaW.PrintLast Go.Proofs.YtpmjnggkhjjiaaaW.PrintMore
attribute [local go_sem] str_gtr str_leq max2_int min2_int max_two min_two max_three min_three max_four min_four   -- for this text's walks alone
set_option linter.unusedVariables false
set_option linter.unusedSimpArgs false

/-! ### columbariumlaw16_WordsSame: function 4 -/
mutual
def columbariumlaw16_WordsSame.l0 : Nat → Bool → List ByteArray → Int → Int → Option (Bool)
  | 0, _, _, _, _ => none
  | k + 1, x5, x24, x25, x26 => if x26 < x25 then (if 0 ≤ x26 then (if x26 < (x24.length : Int) then ((words_Split.f (rdOf ByteArray.empty x24 x26)).bind fun bt255 => ((columbariumlaw16_great.f k (rdOf ByteArray.empty x24 x26)).bind fun t259 => ((words_Split.f t259).bind fun bt260 => (columbariumlaw16_WordsSame.l1 k x5 bt255.1 bt255.2 bt260.1 bt260.2 (⟨#[]⟩ : ByteArray) 0 x24 x25 x26)))) else (none)) else (none)) else (some x5)
def columbariumlaw16_WordsSame.l1 : Nat → Bool → List ByteArray → Int → List ByteArray → Int → ByteArray → Int → List ByteArray → Int → Int → Option (Bool)
  | 0, _, _, _, _, _, _, _, _, _, _ => none
  | k + 1, x5, x8, x9, x10, x11, x12, x13, x24, x25, x26 => if x13 < (x8.length : Int) then (if 0 ≤ x13 then ((words_May.f k (rdOf ByteArray.empty x8 x13)).bind fun t265 => (if t265 = true then (if x12.size + 2 ≤ 9223372036854775807 then (if (x12.size + 2) + (rdOf ByteArray.empty x8 x13).size ≤ 9223372036854775807 then (columbariumlaw16_WordsSame.l1 k x5 x8 x9 x10 x11 ((x12 ++ (⟨#[32, 32]⟩ : ByteArray)) ++ (rdOf ByteArray.empty x8 x13)) (wrap64 (x13 + 1)) x24 x25 x26) else (none)) else (none)) else (none))) else (none)) else ((words_Split.f x12).bind fun bt267 => (if x9 = 0 then (if x11 = 0 then ((columbariumref10_Texts.f k x8 x10).bind fun t271 => (if t271 = true then (if (x12.size : Int) ≤ 2000 then (if bt267.2 = 0 then ((columbariumref10_Texts.f k x8 bt267.1).bind fun t272 => (if t272 = true then (columbariumlaw16_WordsSame.l0 k x5 x24 x25 (wrap64 (x26 + 1))) else (none))) else (none)) else (columbariumlaw16_WordsSame.l0 k x5 x24 x25 (wrap64 (x26 + 1)))) else (none))) else (none)) else (none)))
end
def columbariumlaw16_WordsSame.f (k : Nat) (a0 : ByteArray) (l1 : List Int) : Option (Bool) := (columbariumlaw16_awake.f k).bind fun t249 => (if 0 ≤ (mn (a0.size : Int) 500) then (if (mn (a0.size : Int) 500) ≤ (a0.size : Int) then ((columbariumlaw16_Text.f k l1).bind fun t250 => ((some (([a0.extract 0 ((mn (a0.size : Int) 500) : Int).toNat, t250] : List ByteArray) : List ByteArray)).bind fun y251 => (columbariumlaw16_WordsSame.l0 k t249 y251 (y251.length : Int) 0))) else (none)) else (none))
theorem columbariumlaw16_WordsSame.mono_l : ∀ k, (∀ y0 y1 y2 y3, LeO (columbariumlaw16_WordsSame.l0 k y0 y1 y2 y3) (columbariumlaw16_WordsSame.l0 (k + 1) y0 y1 y2 y3)) ∧ (∀ y0 y1 y2 y3 y4 y5 y6 y7 y8 y9, LeO (columbariumlaw16_WordsSame.l1 k y0 y1 y2 y3 y4 y5 y6 y7 y8 y9) (columbariumlaw16_WordsSame.l1 (k + 1) y0 y1 y2 y3 y4 y5 y6 y7 y8 y9))
  | 0 => ⟨fun _ _ _ _ r h => by simp [columbariumlaw16_WordsSame.l0] at h, fun _ _ _ _ _ _ _ _ _ _ r h => by simp [columbariumlaw16_WordsSame.l1] at h⟩
  | k + 1 => by
    obtain ⟨ih0, ih1⟩ := columbariumlaw16_WordsSame.mono_l k
    refine ⟨?_, ?_⟩
    · intro y0 y1 y2 y3
      unfold columbariumlaw16_WordsSame.l0
      repeat' first
      | (with_reducible exact ih0 _ _ _ _)
      | (with_reducible exact ih1 _ _ _ _ _ _ _ _ _ _)
      | (with_reducible exact columbariumlaw16_Text.mono _ _)
      | (with_reducible exact columbariumlaw16_awake.mono _)
      | (with_reducible exact columbariumlaw16_great.mono _ _)
      | (with_reducible exact columbariumref10_Texts.mono _ _ _)
      | (with_reducible exact words_May.mono _ _)
      | (with_reducible exact LeO.refl _)
      | (with_reducible exact LeO.none _)
      | (with_reducible refine LeO.ite ?_ ?_)
      | (with_reducible refine LeO.bind ?_ (fun _ => ?_))
      | exact ih0 _ _ _ _
      | exact ih1 _ _ _ _ _ _ _ _ _ _
      | exact columbariumlaw16_Text.mono _ _
      | exact columbariumlaw16_awake.mono _
      | exact columbariumlaw16_great.mono _ _
      | exact columbariumref10_Texts.mono _ _ _
      | exact words_May.mono _ _
      | exact LeO.none _
      | refine LeO.ite ?_ ?_
      | refine LeO.bind ?_ (fun _ => ?_)
    · intro y0 y1 y2 y3 y4 y5 y6 y7 y8 y9
      unfold columbariumlaw16_WordsSame.l1
      repeat' first
      | (with_reducible exact ih0 _ _ _ _)
      | (with_reducible exact ih1 _ _ _ _ _ _ _ _ _ _)
      | (with_reducible exact columbariumlaw16_Text.mono _ _)
      | (with_reducible exact columbariumlaw16_awake.mono _)
      | (with_reducible exact columbariumlaw16_great.mono _ _)
      | (with_reducible exact columbariumref10_Texts.mono _ _ _)
      | (with_reducible exact words_May.mono _ _)
      | (with_reducible exact LeO.refl _)
      | (with_reducible exact LeO.none _)
      | (with_reducible refine LeO.ite ?_ ?_)
      | (with_reducible refine LeO.bind ?_ (fun _ => ?_))
      | exact ih0 _ _ _ _
      | exact ih1 _ _ _ _ _ _ _ _ _ _
      | exact columbariumlaw16_Text.mono _ _
      | exact columbariumlaw16_awake.mono _
      | exact columbariumlaw16_great.mono _ _
      | exact columbariumref10_Texts.mono _ _ _
      | exact words_May.mono _ _
      | exact LeO.none _
      | refine LeO.ite ?_ ?_
      | refine LeO.bind ?_ (fun _ => ?_)
theorem columbariumlaw16_WordsSame.mono : ∀ a0 a1 k, LeO (columbariumlaw16_WordsSame.f k a0 a1) (columbariumlaw16_WordsSame.f (k + 1) a0 a1) := by
  intro a0 a1 k
  obtain ⟨ih0, ih1⟩ := columbariumlaw16_WordsSame.mono_l k
  unfold columbariumlaw16_WordsSame.f
  repeat' first
      | (with_reducible exact ih0 _ _ _ _)
      | (with_reducible exact ih1 _ _ _ _ _ _ _ _ _ _)
      | (with_reducible exact columbariumlaw16_Text.mono _ _)
      | (with_reducible exact columbariumlaw16_awake.mono _)
      | (with_reducible exact columbariumlaw16_great.mono _ _)
      | (with_reducible exact columbariumref10_Texts.mono _ _ _)
      | (with_reducible exact words_May.mono _ _)
      | (with_reducible exact LeO.refl _)
      | (with_reducible exact LeO.none _)
      | (with_reducible refine LeO.ite ?_ ?_)
      | (with_reducible refine LeO.bind ?_ (fun _ => ?_))
      | exact ih0 _ _ _ _
      | exact ih1 _ _ _ _ _ _ _ _ _ _
      | exact columbariumlaw16_Text.mono _ _
      | exact columbariumlaw16_awake.mono _
      | exact columbariumlaw16_great.mono _ _
      | exact columbariumref10_Texts.mono _ _ _
      | exact words_May.mono _ _
      | exact LeO.none _
      | refine LeO.ite ?_ ?_
      | refine LeO.bind ?_ (fun _ => ?_)
def columbariumlaw16_WordsSame.T2 : Bool × List (List Nat × List Nat) := (true, [([], []), ([], []), ([1], [1]), ([2], [2]), ([0, 3], [0, 3]), ([], []), ([5], [5]), ([4, 6], [4, 6]), ([7], [7]), ([], [])])
def columbariumlaw16_WordsSame.B2 : List Nat := [0, 0, 2, 6, 15, 0, 32, 127, 255, 0]
theorem columbariumlaw16_WordsSame.tab2 : rtab .any (opsOf Try.f4 2) = columbariumlaw16_WordsSame.T2 := by kernel_rfl
theorem columbariumlaw16_WordsSame.bits2 : waitsOk columbariumlaw16_WordsSame.T2.2 columbariumlaw16_WordsSame.B2 = true := by kernel_rfl
set_option maxHeartbeats 8000000 in
set_option maxRecDepth 100000 in
theorem columbariumlaw16_WordsSame.calls (k : Nat) (a0 : ByteArray) (A1 : Option Addr) (c1 : Nat) (l1 : List Int) (r : Bool) (w : World) (hr1 : Kd.C (Kd.int .i64) w A1 l1.length l1) (hc1 : l1.length ≤ c1) (h : columbariumlaw16_WordsSame.f k a0 l1 = some r) :
    Calls Try.prog 4 #[.string a0, .slice A1 l1.length c1] w fun e w' => e = .returned (.bool r) ∧ Below w.heap.size w w' := by
  have HR1 := Aside0.mk hr1
  have HC1 := Aside0.mk hc1
  clear hr1 hc1
  have HB := Aside0.mk (Below.refl w.heap.size w)
  have H : ((columbariumlaw16_awake.f k).bind fun t249 => (if 0 ≤ (mn (a0.size : Int) 500) then (if (mn (a0.size : Int) 500) ≤ (a0.size : Int) then ((columbariumlaw16_Text.f k l1).bind fun t250 => ((some (([a0.extract 0 ((mn (a0.size : Int) 500) : Int).toNat, t250] : List ByteArray) : List ByteArray)).bind fun y251 => (columbariumlaw16_WordsSame.l0 k t249 y251 (y251.length : Int) 0))) else (none)) else (none))) = some r := h
  clear h
  replace H := Option.bind_eq_some_iff.mp H
  obtain ⟨t249, A30, H⟩ := H
  replace H : (if 0 ≤ (mn (a0.size : Int) 500) then (if (mn (a0.size : Int) 500) ≤ (a0.size : Int) then ((columbariumlaw16_Text.f k l1).bind fun t250 => ((some (([a0.extract 0 ((mn (a0.size : Int) 500) : Int).toNat, t250] : List ByteArray) : List ByteArray)).bind fun y251 => (columbariumlaw16_WordsSame.l0 k t249 y251 (y251.length : Int) 0))) else (none)) else (none)) = some r := H
  have A3 := Aside0.mk A30
  clear A30
  obtain ⟨ji4, hji4⟩ : ∃ j_ : Int, (mn (a0.size : Int) 500) = j_ := ⟨_, rfl⟩
  replace H : (if 0 ≤ (ji4) then (if (ji4) ≤ (a0.size : Int) then ((columbariumlaw16_Text.f k l1).bind fun t250 => ((some (([a0.extract 0 ((ji4) : Int).toNat, t250] : List ByteArray) : List ByteArray)).bind fun y251 => (columbariumlaw16_WordsSame.l0 k t249 y251 (y251.length : Int) 0))) else (none)) else (none)) = some r := by first | (rw [hji4] at H; exact H) | (simp only [hji4] at H ⊢; exact H)
  (try rw [hji4] at A3)
  (try (have hji4h : ji4 ≤ 500 := by (rw [← hji4]; unfold mn; (repeat' split) <;> omega)))
  (try (have hji4g : ji4 ≤ 64 := by omega))
  (try (have hji4l : 0 ≤ ji4 := by (rw [← hji4]; unfold mn; (repeat' split) <;> omega)))
  (try (have hji4m : 0 ≤ ji4 := by omega))
  have hji4_ : (if 500 < (a0.size : Int) then 500 else (a0.size : Int)) = ji4 := hji4
  by_cases c5 : 0 ≤ (ji4)
  · rw [if_pos c5] at H
    have c5b0 := eq_true c5
    have c5b1 : decide (0 ≤ (ji4)) = true := decide_eq_true c5
    clear c5
    by_cases c6 : (ji4) ≤ (a0.size : Int)
    · rw [if_pos c6] at H
      have c6b0 := eq_true c6
      have c6b1 : decide ((ji4) ≤ (a0.size : Int)) = true := decide_eq_true c6
      clear c6
      replace H := Option.bind_eq_some_iff.mp H
      obtain ⟨t250, A70, H⟩ := H
      replace H : ((some (([a0.extract 0 ((ji4) : Int).toNat, t250] : List ByteArray) : List ByteArray)).bind fun y251 => (columbariumlaw16_WordsSame.l0 k t249 y251 (y251.length : Int) 0)) = some r := H
      have A7 := Aside0.mk A70
      clear A70
      obtain ⟨y251, hy251⟩ : ∃ y_ : List ByteArray, y_ = (([a0.extract 0 ((ji4) : Int).toNat, t250] : List ByteArray)) := ⟨_, rfl⟩
      replace H : (columbariumlaw16_WordsSame.l0 k t249 y251 (y251.length : Int) 0) = some r := by first | (rw [hy251]; with_reducible exact H) | (have H2_ := (Option.bind_some _ _).symm.trans H; rw [hy251]; with_reducible exact H2_) | (have H2_ := (Option.bind_some _ _).symm.trans H; with_reducible exact H2_) | with_reducible exact H | (rw [hy251]; exact H) | exact H
      have Ny251 := Aside0.mk hy251
      clear hy251
      have H' := Aside0.mk H
      clear H
      go_enter Try.func4, Try.ntmps4
      try go_wp2_with (first | ((with_reducible refine gate_callee (f := 8) rfl ?_); refine goesL_ (some 16) rfl rfl Try.func8 (by kernel_rfl) rfl #[] rfl (by (try simp only [List.map_toArray, List.map_cons, List.map_nil]); first | done | rfl | (simp only [List.length_drop, List.length_take]; rfl)) ?_; (with_reducible refine (columbariumlaw16_awake.calls k  t249 _ A3.out).mono ?_); rintro e w8 ⟨rfl, hb⟩; refine ⟨_, rfl, ?_⟩; have n0_ := Aside0.mk (below_step (by repeat (first | (with_reducible first | exact HB.out | apply below_alloc | apply pw_below_drewN | apply below_drew1) | exact HB.out)) hb); clear HB; have HB := n0_; clear n0_; (try clear hb); (try clear hb2); (try clear hk); (try clear hi)))
      have n0_ := Aside0.mk (below_drew1 HB.out)
      clear HB
      have HB := n0_
      clear n0_
      refine start_ (n := 10) (S := fun w' => True) (ds := []) #[false, false, false, false, false, false, false, false, false, false] (by kernel_rfl) rfl rfl trivial (fun hHeld => ?_); refine with_tabW columbariumlaw16_WordsSame.tab2 columbariumlaw16_WordsSame.bits2 (fun HT_ HW_ => ?_)
      generalize w8.drew = w9 at HB hHeld ⊢
      refine pure_ (i := 0) (N := some 17) (v := ?_) (a' := ?_) #[true, false, false, false, false, false, false, false, false, false] rfl rfl (any_of HT_.out (by kernel_rfl)) (fun _ _ _ h => h) (Or.inl ⟨by rfl, ?_⟩) ?_ ?_
      rotate_left
      · intro w'
        go_simp
        with_reducible rfl
      rotate_left
      · simp only [Act.put, List.setIfInBounds_toArray, List.set_cons_zero, List.set_cons_succ, i64_w, i32_w]
        rfl
      refine pure_ (i := 1) (N := some 18) (v := ?_) (a' := ?_) #[true, true, false, false, false, false, false, false, false, false] rfl rfl (any_of HT_.out (by kernel_rfl)) (fun _ _ _ h => h) (Or.inl ⟨by rfl, ?_⟩) ?_ ?_
      rotate_left
      · intro w'
        go_simp
        with_reducible rfl
      rotate_left
      · simp only [Act.put, List.setIfInBounds_toArray, List.set_cons_zero, List.set_cons_succ, i64_w, i32_w]
        rfl
      refine pure_ (i := 2) (N := some 19) (v := ?_) (a' := ?_) #[true, true, true, false, false, false, false, false, false, false] rfl rfl (any_of HT_.out (by kernel_rfl)) (fun _ _ _ h => h) (Or.inl ⟨by rfl, ?_⟩) ?_ ?_
      rotate_left
      · intro w'
        go_simp
        with_reducible rfl
      rotate_left
      · simp only [Act.put, List.setIfInBounds_toArray, List.set_cons_zero, List.set_cons_succ, i64_w, i32_w]
        rfl
      refine pure_ (i := 3) (N := some 20) (v := ?_) (a' := ?_) #[true, true, true, true, false, false, false, false, false, false] rfl rfl (any_of HT_.out (by kernel_rfl)) (fun _ _ _ h => h) (Or.inl ⟨by rfl, ?_⟩) ?_ ?_
      rotate_left
      · intro w'
        go_simp
        with_reducible rfl
      rotate_left
      · simp only [Act.put, List.setIfInBounds_toArray, List.set_cons_zero, List.set_cons_succ, i64_w, i32_w]
        rfl
      refine pure_ (i := 4) (N := some 21) (v := ?_) (a' := ?_) #[true, true, true, true, true, false, false, false, false, false] rfl rfl (any_of HT_.out (by kernel_rfl)) (fun _ _ _ h => h) (Or.inl ⟨by rfl, ?_⟩) ?_ ?_
      rotate_left
      · intro w'
        go_simp
        with_reducible rfl
      rotate_left
      · simp only [Act.put, List.setIfInBounds_toArray, List.set_cons_zero, List.set_cons_succ, i64_w, i32_w]
        rfl
      refine pure_ (i := 5) (N := some 22) (v := ?_) (a' := ?_) #[true, true, true, true, true, true, false, false, false, false] rfl rfl (any_of HT_.out (by kernel_rfl)) (fun _ _ _ h => h) (Or.inl ⟨by rfl, ?_⟩) ?_ ?_
      rotate_left
      · intro w'
        go_simp
        with_reducible rfl
      rotate_left
      · simp only [Act.put, List.setIfInBounds_toArray, List.set_cons_zero, List.set_cons_succ, i64_w, i32_w]
        rfl
      refine pure_ (i := 9) (N := some 26) (v := ?_) (a' := ?_) #[true, true, true, true, true, true, false, false, false, true] rfl rfl (any_of HT_.out (by kernel_rfl)) (fun _ _ _ h => h) (Or.inl ⟨by rfl, ?_⟩) ?_ ?_
      rotate_left
      · intro w'
        go_simp
        with_reducible rfl
      rotate_left
      · simp only [Act.put, List.setIfInBounds_toArray, List.set_cons_zero, List.set_cons_succ, i64_w, i32_w]
        rfl
      refine one_ (i := 6) (N := some 23) #[true, true, true, true, true, true, true, false, false, true] rfl rfl (one_of HT_.out (by kernel_rfl)) (by decide) (fun K hK => ?_)
      refine goes_ Try.func9 (by kernel_rfl) rfl #[.slice A1 l1.length c1] (by rfl) rfl rfl (by (try simp only [List.map_toArray, List.map_cons, List.map_nil]); first | done | rfl | (simp only [List.length_drop, List.length_take]; rfl)) ?_
      with_reducible refine (columbariumlaw16_Text.calls k _ _ l1 t250 _ ?side1 ?side2 A7.out).mono ?_
      (case side1 => repeat (first | exact (Kd.C_below HR1.out HB.out) | (with_reducible refine Kd.C_alloc ?_ _) | (with_reducible refine Kd.C_drewN ?_ _) | (with_reducible refine Kd.C_drew ?_)))
      (case side2 => exact HC1.out)
      rintro e w10 ⟨rfl, hb⟩
      refine ⟨_, rfl, ?_⟩
      have n0_ := Aside0.mk (below_step (by repeat (first | (with_reducible first | exact HB.out | apply below_alloc | apply pw_below_drewN | apply below_drew1) | exact HB.out)) hb)
      clear HB
      have HB := n0_
      clear n0_
      (try clear hb)
      (try clear hb2)
      (try clear hk)
      (try clear hi)
      refine hK.out _ _ trivial (fun hHeld => ?_)
      clear hK K
      refine norm_ (a' := ?_) ?_ ?_
      rotate_left
      · show Act.put _ (some 23) _ = _
        simp only [Act.put, List.setIfInBounds_toArray, List.set_cons_zero, List.set_cons_succ, i64_w, i32_w]
        rfl
      refine one_ (i := 7) (N := some 24) #[true, true, true, true, true, true, true, true, false, true] rfl rfl (one_of HT_.out (by kernel_rfl)) (by decide) (fun K hK => ?_)
      refine Kd.R_lit_step Kd.string _ 9 ?hg (N := 24) ?hd (xs := ([a0.extract 0 ((ji4) : Int).toNat, t250] : List ByteArray)) (inner := [.string (a0.extract 0 ((ji4) : Int).toNat), .string t250]) (ok := fun _ => True) (okp := fun _ => True) ?hr ?hp (fun _ hk => hk) trivial (Below.refl _ _) (Nat.le_refl _) (by simp) ?_; (case hd => rfl); (case hg => rfl); (case hr => first | (go_simp; done) | (go_simp; rfl)); (case hp => exact (Reps.one (show Kd.M Kd.string _ _ _ (a0.extract 0 ((ji4) : Int).toNat) [.string (a0.extract 0 ((ji4) : Int).toNat)] from rfl) (Reps.one (show Kd.M Kd.string _ _ _ t250 [.string t250] from rfl) (Reps.none _ _))))
      intro v252 w11 ho12 hb hg_ hnew_
      clear hg_ hnew_
      (first | rw [← Ny251.out] at ho12 | (simp only [Int.reduceToNat] at ho12; rw [← Ny251.out] at ho12))
      have n0_ := Aside0.mk (Kd.R_lower ho12 (below_size (by repeat (first | (with_reducible first | exact HB.out | apply below_alloc | apply pw_below_drewN | apply below_drew1) | exact HB.out))))
      have n1_ := Aside0.mk (below_step (by repeat (first | (with_reducible first | exact HB.out | apply below_alloc | apply pw_below_drewN | apply below_drew1) | exact HB.out)) hb)
      clear HB
      have HO253 := n0_
      have HB := n1_
      clear n0_ n1_
      clear hb ho12
      obtain ⟨Ao13, co13, eo13⟩ := Kd.R_slice HO253.out
      (first | subst eo13 | (injection eo13 with f1_ f2_ f3_; have f4_ := f1_.symm; have f5_ := f3_.symm; clear f1_ f2_ f3_; subst f4_; subst f5_))
      refine hK.out _ _ trivial (fun hHeld => ?_)
      clear hK K
      refine norm_ (a' := ?_) ?_ ?_
      rotate_left
      · show Act.put _ (some 24) _ = _
        simp only [Act.put, List.setIfInBounds_toArray, List.set_cons_zero, List.set_cons_succ, i64_w, i32_w]
        rfl
      refine pure_ (i := 8) (N := some 25) (v := ?_) (a' := ?_) #[true, true, true, true, true, true, true, true, true, true] rfl rfl (any_of HT_.out (by kernel_rfl)) (fun _ _ _ h => h) (Or.inl ⟨by rfl, ?_⟩) ?_ ?_
      rotate_left
      · intro w'
        go_simp
        with_reducible rfl
      rotate_left
      · simp only [Act.put, List.setIfInBounds_toArray, List.set_cons_zero, List.set_cons_succ, i64_w, i32_w]
        rfl
      refine done_ (done_of HT_.out (by kernel_rfl)) ?_
      try go_wp2
      go_loopg [26] k (fun kq v26 w' => ∃ (x26_1 : Int), v26 = .int .i64 x26_1 ∧ Aside0 (columbariumlaw16_WordsSame.l0 kq t249 y251 (y251.length : Int) x26_1 = some r) ∧ Aside0 (kq ≤ k) ∧ Aside0 (Kd.R Kd.string 9 w' w.heap.size (fun _ => True) (.slice Ao13 y251.length co13) y251) ∧ Aside0 (Below w.heap.size w w'))
      case atStart => exact ⟨(0), (by first | rfl | (simp; done) | (simp [*]; done)), H', ⟨Nat.le_refl _⟩, ⟨by (with_reducible repeat (first | apply Kd.R_alloc | apply Kd.R_drewN | apply Kd.R_drew)); exact HO253.out⟩, ⟨by repeat (first | (with_reducible first | exact HB.out | apply below_alloc | apply pw_below_drewN | apply below_drew1) | exact HB.out)⟩⟩
      case round =>
        clear H'
        try clear c1
        try clear p2
        try clear c4
        try clear c5
        try clear c5b0
        try clear c5b1
        try clear c6
        try clear c6b0
        try clear c6b1
        try clear c8
        try clear c9
        obtain ⟨x26_1, rfl, HA, HK1, HO_24, HB⟩ := hrel
        cases gk with
        | zero => exact absurd HA.out (by simp [columbariumlaw16_WordsSame.l0])
        | succ k1 =>
          have H := HA.out
          clear HA
          simp only [columbariumlaw16_WordsSame.l0] at H
          by_cases c14 : x26_1 < (y251.length : Int)
          · rw [if_pos c14] at H
            have c14b0 : decide (x26_1 < (y251.length : Int)) = true := decide_eq_true c14
            clear c14
            by_cases c15 : 0 ≤ x26_1
            · rw [if_pos c15] at H
              have c15b0 : decide (0 ≤ x26_1) = true := decide_eq_true c15
              clear c15
              by_cases c16 : x26_1 < (y251.length : Int)
              · rw [if_pos c16] at H
                have c16b0 : decide (x26_1 < (y251.length : Int)) = true := decide_eq_true c16
                clear c16
                replace H := Option.bind_eq_some_iff.mp H
                obtain ⟨⟨t255, t258⟩, A170, H⟩ := H
                replace H : ((columbariumlaw16_great.f k1 (rdOf ByteArray.empty y251 x26_1)).bind fun t259 => ((words_Split.f t259).bind fun bt260 => (columbariumlaw16_WordsSame.l1 k1 t249 t255 t258 bt260.1 bt260.2 (⟨#[]⟩ : ByteArray) 0 y251 (y251.length : Int) x26_1))) = some r := H
                have A17 := Aside0.mk A170
                clear A170
                replace H := Option.bind_eq_some_iff.mp H
                obtain ⟨t259, A180, H⟩ := H
                replace H : ((words_Split.f t259).bind fun bt260 => (columbariumlaw16_WordsSame.l1 k1 t249 t255 t258 bt260.1 bt260.2 (⟨#[]⟩ : ByteArray) 0 y251 (y251.length : Int) x26_1)) = some r := H
                have A18 := Aside0.mk A180
                clear A180
                replace H := Option.bind_eq_some_iff.mp H
                obtain ⟨⟨t260, t263⟩, A190, H⟩ := H
                replace H : (columbariumlaw16_WordsSame.l1 k1 t249 t255 t258 t260 t263 (⟨#[]⟩ : ByteArray) 0 y251 (y251.length : Int) x26_1) = some r := H
                have A19 := Aside0.mk A190
                clear A190
                have H' := Aside0.mk H
                clear H
                have p254 : 0 ≤ (x26_1 : Int) := of_decide_eq_true (by first | (with_reducible assumption) | assumption)
                have q254 : x26_1 < (y251.length : Int) := of_decide_eq_true (by first | (with_reducible assumption) | assumption)
                obtain ⟨ad254, e254, hx254_0⟩ := Kd.at_string (Kd.R_reads' HO_24.out).2.2 x26_1 p254 q254
                cases e254
                replace p254 := eq_true p254
                replace q254 := eq_true q254
                go_wp2_with (first | ((with_reducible refine gate_callee (f := 11) rfl ?_); refine goesL_ (some 32) rfl rfl Try.func11 (by kernel_rfl) rfl #[.string (rdOf ByteArray.empty y251 x26_1)] rfl (by (try simp only [List.map_toArray, List.map_cons, List.map_nil]); first | done | rfl | (simp only [List.length_drop, List.length_take]; rfl)) ?_; (with_reducible refine (words_Split.calls (rdOf ByteArray.empty y251 x26_1) t255 t258 _ A17.out).mono ?_); rintro e w20 ⟨v256, rfl, ho0, hb⟩; (try clear A17); refine ⟨_, rfl, ?_⟩; have n0_ := Aside0.mk (Kd.R_below (by (with_reducible repeat (first | apply Kd.R_alloc | apply Kd.R_drewN | apply Kd.R_drew)); exact HO_24.out) hb); have n1_ := Aside0.mk (Kd.V_lower (Kd.V_mono (ok' := fun k_ => some k_ ≠ (.slice (some ad254) y251.length co13 : Value).ownBlock) ho0 (fun k_ hk_ => (Kd.fresh' (Kd.R_lt (by (with_reducible repeat (first | apply Kd.R_alloc | apply Kd.R_drewN | apply Kd.R_drew)); exact HO_24.out)) k_ hk_))) (below_size (by repeat (first | (with_reducible first | exact HB.out | apply below_alloc | apply pw_below_drewN | apply below_drew1) | exact HB.out)))); have n2_ := Aside0.mk (below_step (by repeat (first | (with_reducible first | exact HB.out | apply below_alloc | apply pw_below_drewN | apply below_drew1) | exact HB.out)) hb); clear HO_24; clear HB; have HO_24 := n0_; have HO257 := n1_; have HB := n2_; clear n0_ n1_ n2_; (try clear hb); (try clear hb2); (try clear hk); (try clear hi); (try clear ho0)) | ((with_reducible refine gate_callee (f := 10) rfl ?_); refine goesL_ (some 37) rfl rfl Try.func10 (by kernel_rfl) rfl #[.string (rdOf ByteArray.empty y251 x26_1)] rfl (by (try simp only [List.map_toArray, List.map_cons, List.map_nil]); first | done | rfl | (simp only [List.length_drop, List.length_take]; rfl)) ?_; (with_reducible refine (columbariumlaw16_great.calls k1 (rdOf ByteArray.empty y251 x26_1) t259 _ A18.out).mono ?_); rintro e w21 ⟨rfl, hb⟩; (try clear A18); refine ⟨_, rfl, ?_⟩; have n0_ := Aside0.mk (Kd.R_below (by (with_reducible repeat (first | apply Kd.R_alloc | apply Kd.R_drewN | apply Kd.R_drew)); exact HO_24.out) hb); have n1_ := Aside0.mk (Kd.V_below (by (with_reducible repeat (first | apply Kd.V_alloc | apply Kd.V_drewN | apply Kd.V_drew)); exact HO257.out) hb); have n2_ := Aside0.mk (below_step (by repeat (first | (with_reducible first | exact HB.out | apply below_alloc | apply pw_below_drewN | apply below_drew1) | exact HB.out)) hb); clear HO_24; clear HO257; clear HB; have HO_24 := n0_; have HO257 := n1_; have HB := n2_; clear n0_ n1_ n2_; (try clear hb); (try clear hb2); (try clear hk); (try clear hi)) | ((with_reducible refine gate_callee (f := 11) rfl ?_); refine goesL_ (some 38) rfl rfl Try.func11 (by kernel_rfl) rfl #[.string t259] rfl (by (try simp only [List.map_toArray, List.map_cons, List.map_nil]); first | done | rfl | (simp only [List.length_drop, List.length_take]; rfl)) ?_; (with_reducible refine (words_Split.calls t259 t260 t263 _ A19.out).mono ?_); rintro e w22 ⟨v261, rfl, ho0, hb⟩; (try clear A19); refine ⟨_, rfl, ?_⟩; have n0_ := Aside0.mk (Kd.R_below (by (with_reducible repeat (first | apply Kd.R_alloc | apply Kd.R_drewN | apply Kd.R_drew)); exact HO_24.out) hb); have n1_ := Aside0.mk (Kd.V_below (by (with_reducible repeat (first | apply Kd.V_alloc | apply Kd.V_drewN | apply Kd.V_drew)); exact HO257.out) hb); have n2_ := Aside0.mk (Kd.V_lower (Kd.V_mono (ok' := fun k_ => some k_ ≠ (.slice (some ad254) y251.length co13 : Value).ownBlock) ho0 (fun k_ hk_ => (Kd.fresh' (Kd.R_lt (by (with_reducible repeat (first | apply Kd.R_alloc | apply Kd.R_drewN | apply Kd.R_drew)); exact HO_24.out)) k_ hk_))) (below_size (by repeat (first | (with_reducible first | exact HB.out | apply below_alloc | apply pw_below_drewN | apply below_drew1) | exact HB.out)))); have n3_ := Aside0.mk (below_step (by repeat (first | (with_reducible first | exact HB.out | apply below_alloc | apply pw_below_drewN | apply below_drew1) | exact HB.out)) hb); clear HO_24; clear HO257; clear HB; have HO_24 := n0_; have HO257 := n1_; have HO262 := n2_; have HB := n3_; clear n0_ n1_ n2_ n3_; (try clear hb); (try clear hb2); (try clear hk); (try clear hi); (try clear ho0)))
                go_loopg [12, 13] k1 (fun kq v12 v13 w' => ∃ (x12_2 : ByteArray) (x13_2 : Int), v12 = .string x12_2 ∧ v13 = .int .i64 x13_2 ∧ Aside0 (columbariumlaw16_WordsSame.l1 kq t249 t255 t258 t260 t263 x12_2 x13_2 y251 (y251.length : Int) x26_1 = some r) ∧ Aside0 (kq ≤ k1) ∧ Aside0 (Kd.V Kd.string 9 w' w.heap.size (fun k_ => some k_ ≠ ((.slice (some ad254) y251.length co13) : Value).ownBlock) v256 t255) ∧ Aside0 (Kd.V Kd.string 9 w' w.heap.size (fun k_ => some k_ ≠ ((.slice (some ad254) y251.length co13) : Value).ownBlock) v261 t260) ∧ Aside0 (Kd.R Kd.string 9 w' w.heap.size (fun _ => True) (.slice (some ad254) y251.length co13) y251) ∧ Aside0 (Below w.heap.size w w'))
                case atStart => exact ⟨((⟨#[]⟩ : ByteArray)), (0), (by first | rfl | (simp; done) | (simp [*]; done)), (by first | rfl | (simp; done) | (simp [*]; done)), H', ⟨Nat.le_refl _⟩, ⟨by (with_reducible repeat (first | apply Kd.V_alloc | apply Kd.V_drewN | apply Kd.V_drew)); exact HO257.out⟩, ⟨by (with_reducible repeat (first | apply Kd.V_alloc | apply Kd.V_drewN | apply Kd.V_drew)); exact HO262.out⟩, ⟨by (with_reducible repeat (first | apply Kd.R_alloc | apply Kd.R_drewN | apply Kd.R_drew)); exact HO_24.out⟩, ⟨by repeat (first | (with_reducible first | exact HB.out | apply below_alloc | apply pw_below_drewN | apply below_drew1) | exact HB.out)⟩⟩
                case round =>
                  clear H'
                  try clear c1
                  try clear p2
                  try clear q2
                  try clear hx2
                  try clear c4
                  try clear c5
                  try clear c5b0
                  try clear c5b1
                  try clear c6
                  try clear c6b0
                  try clear c6b1
                  try clear c8
                  try clear c9
                  try clear c10
                  try clear c11
                  try clear c14
                  try clear c14b0
                  try clear c15
                  try clear c15b0
                  try clear c16
                  try clear c16b0
                  try clear hx254_0
                  try clear p2
                  try clear p254
                  try clear q254
                  obtain ⟨x12_2, x13_2, rfl, rfl, HA, HK2, HO_8, HO_10, HO_24, HB⟩ := hrel
                  cases gk with
                  | zero => exact absurd HA.out (by simp [columbariumlaw16_WordsSame.l1])
                  | succ k2 =>
                    have H := HA.out
                    clear HA
                    simp only [columbariumlaw16_WordsSame.l1] at H
                    by_cases c23 : x13_2 < (t255.length : Int)
                    · rw [if_pos c23] at H
                      have c23b0 : decide (x13_2 < (t255.length : Int)) = true := decide_eq_true c23
                      clear c23
                      by_cases c24 : 0 ≤ x13_2
                      · rw [if_pos c24] at H
                        have c24b0 : decide (0 ≤ x13_2) = true := decide_eq_true c24
                        clear c24
                        replace H := Option.bind_eq_some_iff.mp H
                        obtain ⟨t265, A250, H⟩ := H
                        replace H : (if t265 = true then (if x12_2.size + 2 ≤ 9223372036854775807 then (if (x12_2.size + 2) + (rdOf ByteArray.empty t255 x13_2).size ≤ 9223372036854775807 then (columbariumlaw16_WordsSame.l1 k2 t249 t255 t258 t260 t263 ((x12_2 ++ (⟨#[32, 32]⟩ : ByteArray)) ++ (rdOf ByteArray.empty t255 x13_2)) (wrap64 (x13_2 + 1)) y251 (y251.length : Int) x26_1) else (none)) else (none)) else (none)) = some r := H
                        have A25 := Aside0.mk A250
                        clear A250
                        by_cases c26 : t265 = true
                        · subst c26
                          have H1 : (if x12_2.size + 2 ≤ 9223372036854775807 then (if (x12_2.size + 2) + (rdOf ByteArray.empty t255 x13_2).size ≤ 9223372036854775807 then (columbariumlaw16_WordsSame.l1 k2 t249 t255 t258 t260 t263 ((x12_2 ++ (⟨#[32, 32]⟩ : ByteArray)) ++ (rdOf ByteArray.empty t255 x13_2)) (wrap64 (x13_2 + 1)) y251 (y251.length : Int) x26_1) else (none)) else (none)) = some r := by rw [if_pos rfl] at H; exact H
                          clear H
                          have H := H1
                          clear H1
                          by_cases c27 : x12_2.size + 2 ≤ 9223372036854775807
                          · rw [if_pos c27] at H
                            have c27b0 := eq_true c27
                            have c27b1 : decide (x12_2.size + 2 ≤ 9223372036854775807) = true := decide_eq_true c27
                            try have c27b2 : (9223372036854775807 < x12_2.size + 2) = False := eq_false (Nat.not_lt.2 c27)
                            by_cases c28 : (x12_2.size + 2) + (rdOf ByteArray.empty t255 x13_2).size ≤ 9223372036854775807
                            · rw [if_pos c28] at H
                              have c28b0 := eq_true c28
                              have c28b1 : decide ((x12_2.size + 2) + (rdOf ByteArray.empty t255 x13_2).size ≤ 9223372036854775807) = true := decide_eq_true c28
                              try have c28b2 : (9223372036854775807 < (x12_2.size + 2) + (rdOf ByteArray.empty t255 x13_2).size) = False := eq_false (Nat.not_lt.2 c28)
                              have H' := Aside0.mk H
                              clear H
                              obtain ⟨Ao29, co29, eo29⟩ := Kd.V_slice HO_8.out
                              subst eo29
                              have p264 : 0 ≤ (x13_2 : Int) := of_decide_eq_true (by first | (with_reducible assumption) | assumption)
                              have q264 : x13_2 < (t255.length : Int) := of_decide_eq_true (by first | (with_reducible assumption) | assumption)
                              obtain ⟨ad264, e264, hx264_0⟩ := Kd.at_string (Kd.V_reads' HO_8.out).2.2 x13_2 p264 q264
                              cases e264
                              replace p264 := eq_true p264
                              replace q264 := eq_true q264
                              go_wp2_with (first | ((with_reducible refine gate_callee (f := 16) rfl ?_); refine goesL_ (some 51) rfl rfl Try.func16 (by kernel_rfl) rfl #[.string (rdOf ByteArray.empty t255 x13_2)] rfl (by (try simp only [List.map_toArray, List.map_cons, List.map_nil]); first | done | rfl | (simp only [List.length_drop, List.length_take]; rfl)) ?_; (with_reducible refine (words_May.calls k2 (rdOf ByteArray.empty t255 x13_2) true _ A25.out).mono ?_); rintro e w30 ⟨rfl, hb⟩; refine ⟨_, rfl, ?_⟩; have n0_ := Aside0.mk (Kd.V_below (by (with_reducible repeat (first | apply Kd.V_alloc | apply Kd.V_drewN | apply Kd.V_drew)); exact HO_8.out) hb); have n1_ := Aside0.mk (Kd.V_below (by (with_reducible repeat (first | apply Kd.V_alloc | apply Kd.V_drewN | apply Kd.V_drew)); exact HO_10.out) hb); have n2_ := Aside0.mk (Kd.R_below (by (with_reducible repeat (first | apply Kd.R_alloc | apply Kd.R_drewN | apply Kd.R_drew)); exact HO_24.out) hb); have n3_ := Aside0.mk (below_step (by repeat (first | (with_reducible first | exact HB.out | apply below_alloc | apply pw_below_drewN | apply below_drew1) | exact HB.out)) hb); clear HO_8; clear HO_10; clear HO_24; clear HB; have HO_8 := n0_; have HO_10 := n1_; have HO_24 := n2_; have HB := n3_; clear n0_ n1_ n2_ n3_; (try clear hb); (try clear hb2); (try clear hk); (try clear hi); have p266 : 0 ≤ (x13_2 : Int) := of_decide_eq_true (by first | (with_reducible assumption) | assumption); have q266 : x13_2 < (t255.length : Int) := of_decide_eq_true (by first | (with_reducible assumption) | assumption); obtain ⟨ad266, e266, hx266_0⟩ := Kd.at_string (Kd.V_reads' HO_8.out).2.2 x13_2 p266 q266; obtain rfl : ad264 = ad266 := (by injection e266); replace p266 := eq_true p266; replace q266 := eq_true q266))
                              go_roundg k2
                              case measure => have := HK1.out; have := HK2.out; omega
                              case rel => exact ⟨((x12_2 ++ (⟨#[32, 32]⟩ : ByteArray)) ++ (rdOf ByteArray.empty t255 x13_2)), (wrap64 (x13_2 + 1)), (by first | rfl | (simp; done) | (simp [*]; done)), (by first | rfl | (simp; done) | (simp [*]; done)), H', ⟨by have := HK1.out; have := HK2.out; omega⟩, ⟨by (with_reducible repeat (first | apply Kd.V_alloc | apply Kd.V_drewN | apply Kd.V_drew)); exact HO_8.out⟩, ⟨by (with_reducible repeat (first | apply Kd.V_alloc | apply Kd.V_drewN | apply Kd.V_drew)); exact HO_10.out⟩, ⟨by (with_reducible repeat (first | apply Kd.R_alloc | apply Kd.R_drewN | apply Kd.R_drew)); exact HO_24.out⟩, ⟨by repeat (first | (with_reducible first | exact HB.out | apply below_alloc | apply pw_below_drewN | apply below_drew1) | exact HB.out)⟩⟩
                            · rw [if_neg c28] at H
                              exact absurd H (by simp)
                          · rw [if_neg c27] at H
                            exact absurd H (by simp)
                        · replace c26 := Bool.eq_false_iff.mpr c26
                          subst c26
                          have H1 : (none) = some r := by rw [if_neg (show ¬ (false = true) by decide)] at H; exact H
                          clear H
                          have H := H1
                          clear H1
                          exact absurd H (by simp)
                      · rw [if_neg c24] at H
                        exact absurd H (by simp)
                    · rw [if_neg c23] at H
                      have c23b0 : decide (x13_2 < (t255.length : Int)) = false := decide_eq_false c23
                      clear c23
                      replace H := Option.bind_eq_some_iff.mp H
                      obtain ⟨⟨t267, t270⟩, A310, H⟩ := H
                      replace H : (if t258 = 0 then (if t263 = 0 then ((columbariumref10_Texts.f k2 t255 t260).bind fun t271 => (if t271 = true then (if (x12_2.size : Int) ≤ 2000 then (if t270 = 0 then ((columbariumref10_Texts.f k2 t255 t267).bind fun t272 => (if t272 = true then (columbariumlaw16_WordsSame.l0 k2 t249 y251 (y251.length : Int) (wrap64 (x26_1 + 1))) else (none))) else (none)) else (columbariumlaw16_WordsSame.l0 k2 t249 y251 (y251.length : Int) (wrap64 (x26_1 + 1)))) else (none))) else (none)) else (none)) = some r := H
                      have A31 := Aside0.mk A310
                      clear A310
                      by_cases c32 : t258 = 0
                      · rw [if_pos c32] at H
                        have c32b0 : (t258 == 0) = true := beq_iff_eq.mpr c32
                        have c32b1 : (t258 != 0) = false := bne_eq_false_iff_eq.mpr c32
                        clear c32
                        by_cases c33 : t263 = 0
                        · rw [if_pos c33] at H
                          have c33b0 : (t263 == 0) = true := beq_iff_eq.mpr c33
                          have c33b1 : (t263 != 0) = false := bne_eq_false_iff_eq.mpr c33
                          clear c33
                          replace H := Option.bind_eq_some_iff.mp H
                          obtain ⟨t271, A340, H⟩ := H
                          replace H : (if t271 = true then (if (x12_2.size : Int) ≤ 2000 then (if t270 = 0 then ((columbariumref10_Texts.f k2 t255 t267).bind fun t272 => (if t272 = true then (columbariumlaw16_WordsSame.l0 k2 t249 y251 (y251.length : Int) (wrap64 (x26_1 + 1))) else (none))) else (none)) else (columbariumlaw16_WordsSame.l0 k2 t249 y251 (y251.length : Int) (wrap64 (x26_1 + 1)))) else (none)) = some r := H
                          have A34 := Aside0.mk A340
                          clear A340
                          by_cases c35 : t271 = true
                          · subst c35
                            have H1 : (if (x12_2.size : Int) ≤ 2000 then (if t270 = 0 then ((columbariumref10_Texts.f k2 t255 t267).bind fun t272 => (if t272 = true then (columbariumlaw16_WordsSame.l0 k2 t249 y251 (y251.length : Int) (wrap64 (x26_1 + 1))) else (none))) else (none)) else (columbariumlaw16_WordsSame.l0 k2 t249 y251 (y251.length : Int) (wrap64 (x26_1 + 1)))) = some r := by rw [if_pos rfl] at H; exact H
                            clear H
                            have H := H1
                            clear H1
                            by_cases c36 : (x12_2.size : Int) ≤ 2000
                            · rw [if_pos c36] at H
                              have c36b0 : decide ((x12_2.size : Int) ≤ 2000) = true := decide_eq_true c36
                              have c36b1 : decide (x12_2.size ≤ 2000) = true := decide_eq_true (by omega)
                              clear c36
                              by_cases c37 : t270 = 0
                              · rw [if_pos c37] at H
                                have c37b0 : (t270 == 0) = true := beq_iff_eq.mpr c37
                                have c37b1 : (t270 != 0) = false := bne_eq_false_iff_eq.mpr c37
                                clear c37
                                replace H := Option.bind_eq_some_iff.mp H
                                obtain ⟨t272, A380, H⟩ := H
                                replace H : (if t272 = true then (columbariumlaw16_WordsSame.l0 k2 t249 y251 (y251.length : Int) (wrap64 (x26_1 + 1))) else (none)) = some r := H
                                have A38 := Aside0.mk A380
                                clear A380
                                by_cases c39 : t272 = true
                                · subst c39
                                  have H1 : (columbariumlaw16_WordsSame.l0 k2 t249 y251 (y251.length : Int) (wrap64 (x26_1 + 1))) = some r := by rw [if_pos rfl] at H; exact H
                                  clear H
                                  have H := H1
                                  clear H1
                                  have H' := Aside0.mk H
                                  clear H
                                  obtain ⟨Ao40, co40, eo40⟩ := Kd.V_slice HO_8.out
                                  subst eo40
                                  go_wp2_with (first | ((with_reducible refine gate_callee (f := 11) rfl ?_); refine goesL_ (some 62) rfl rfl Try.func11 (by kernel_rfl) rfl #[.string x12_2] rfl (by (try simp only [List.map_toArray, List.map_cons, List.map_nil]); first | done | rfl | (simp only [List.length_drop, List.length_take]; rfl)) ?_; (with_reducible refine (words_Split.calls x12_2 t267 t270 _ A31.out).mono ?_); rintro e w41 ⟨v268, rfl, ho0, hb⟩; (try clear A31); refine ⟨_, rfl, ?_⟩; have n0_ := Aside0.mk (Kd.V_below (by (with_reducible repeat (first | apply Kd.V_alloc | apply Kd.V_drewN | apply Kd.V_drew)); exact HO_8.out) hb); have n1_ := Aside0.mk (Kd.V_below (by (with_reducible repeat (first | apply Kd.V_alloc | apply Kd.V_drewN | apply Kd.V_drew)); exact HO_10.out) hb); have n2_ := Aside0.mk (Kd.R_below (by (with_reducible repeat (first | apply Kd.R_alloc | apply Kd.R_drewN | apply Kd.R_drew)); exact HO_24.out) hb); have n3_ := Aside0.mk (Kd.V_lower (Kd.V_mono (ok' := fun k_ => some k_ ≠ (.slice (some ad254) y251.length co13 : Value).ownBlock) ho0 (fun k_ hk_ => (Kd.fresh' (Kd.R_lt (by (with_reducible repeat (first | apply Kd.R_alloc | apply Kd.R_drewN | apply Kd.R_drew)); exact HO_24.out)) k_ hk_))) (below_size (by repeat (first | (with_reducible first | exact HB.out | apply below_alloc | apply pw_below_drewN | apply below_drew1) | exact HB.out)))); have n4_ := Aside0.mk (below_step (by repeat (first | (with_reducible first | exact HB.out | apply below_alloc | apply pw_below_drewN | apply below_drew1) | exact HB.out)) hb); clear HO_8; clear HO_10; clear HO_24; clear HB; have HO_8 := n0_; have HO_10 := n1_; have HO_24 := n2_; have HO269 := n3_; have HB := n4_; clear n0_ n1_ n2_ n3_ n4_; (try clear hb); (try clear hb2); (try clear hk); (try clear hi); (try clear ho0); obtain ⟨Ao42, co42, eo42⟩ := Kd.V_slice HO_10.out; subst eo42) | (go_at_call 15; (with_reducible refine (columbariumref10_Texts.calls k2 _ _ t255 _ _ t260 true _ ?side1 ?side2 ?side3 ?side4 A34.out).mono ?_); (case side1 => repeat (first | exact (Kd.V_reads' HO_8.out).2.2 | (with_reducible refine Kd.C_alloc ?_ _) | (with_reducible refine Kd.C_drewN ?_ _) | (with_reducible refine Kd.C_drew ?_))); (case side2 => exact (Kd.V_reads' HO_8.out).2.1); (case side3 => repeat (first | exact (Kd.V_reads' HO_10.out).2.2 | (with_reducible refine Kd.C_alloc ?_ _) | (with_reducible refine Kd.C_drewN ?_ _) | (with_reducible refine Kd.C_drew ?_))); (case side4 => exact (Kd.V_reads' HO_10.out).2.1); rintro e w' ⟨rfl, ⟨nd, rfl⟩⟩; obtain ⟨Ao43, co43, eo43⟩ := Kd.V_slice HO269.out; subst eo43) | (go_at_call 15; (with_reducible refine (columbariumref10_Texts.calls k2 _ _ t255 _ _ t267 true _ ?side1 ?side2 ?side3 ?side4 A38.out).mono ?_); (case side1 => repeat (first | exact (Kd.V_reads' HO_8.out).2.2 | (with_reducible refine Kd.C_alloc ?_ _) | (with_reducible refine Kd.C_drewN ?_ _) | (with_reducible refine Kd.C_drew ?_))); (case side2 => exact (Kd.V_reads' HO_8.out).2.1); (case side3 => repeat (first | exact (Kd.V_reads' HO269.out).2.2 | (with_reducible refine Kd.C_alloc ?_ _) | (with_reducible refine Kd.C_drewN ?_ _) | (with_reducible refine Kd.C_drew ?_))); (case side4 => exact (Kd.V_reads' HO269.out).2.1); rintro e w' ⟨rfl, ⟨nd, rfl⟩⟩))
                                  go_roundg k2
                                  case measure => have := HK1.out; have := HK2.out; omega
                                  case rel => exact ⟨(wrap64 (x26_1 + 1)), (by first | rfl | (simp; done) | (simp [*]; done)), H', ⟨by have := HK1.out; have := HK2.out; omega⟩, ⟨by (with_reducible repeat (first | apply Kd.R_alloc | apply Kd.R_drewN | apply Kd.R_drew)); exact HO_24.out⟩, ⟨by repeat (first | (with_reducible first | exact HB.out | apply below_alloc | apply pw_below_drewN | apply below_drew1) | exact HB.out)⟩⟩
                                · replace c39 := Bool.eq_false_iff.mpr c39
                                  subst c39
                                  have H1 : (none) = some r := by rw [if_neg (show ¬ (false = true) by decide)] at H; exact H
                                  clear H
                                  have H := H1
                                  clear H1
                                  exact absurd H (by simp)
                              · rw [if_neg c37] at H
                                exact absurd H (by simp)
                            · rw [if_neg c36] at H
                              have c36b0 : decide ((x12_2.size : Int) ≤ 2000) = false := decide_eq_false c36
                              have c36b1 : decide (x12_2.size ≤ 2000) = false := decide_eq_false (by omega)
                              clear c36
                              have H' := Aside0.mk H
                              clear H
                              obtain ⟨Ao44, co44, eo44⟩ := Kd.V_slice HO_8.out
                              subst eo44
                              go_wp2_with (first | ((with_reducible refine gate_callee (f := 11) rfl ?_); refine goesL_ (some 62) rfl rfl Try.func11 (by kernel_rfl) rfl #[.string x12_2] rfl (by (try simp only [List.map_toArray, List.map_cons, List.map_nil]); first | done | rfl | (simp only [List.length_drop, List.length_take]; rfl)) ?_; (with_reducible refine (words_Split.calls x12_2 t267 t270 _ A31.out).mono ?_); rintro e w45 ⟨v268, rfl, ho0, hb⟩; (try clear A31); refine ⟨_, rfl, ?_⟩; have n0_ := Aside0.mk (Kd.V_below (by (with_reducible repeat (first | apply Kd.V_alloc | apply Kd.V_drewN | apply Kd.V_drew)); exact HO_8.out) hb); have n1_ := Aside0.mk (Kd.V_below (by (with_reducible repeat (first | apply Kd.V_alloc | apply Kd.V_drewN | apply Kd.V_drew)); exact HO_10.out) hb); have n2_ := Aside0.mk (Kd.R_below (by (with_reducible repeat (first | apply Kd.R_alloc | apply Kd.R_drewN | apply Kd.R_drew)); exact HO_24.out) hb); have n3_ := Aside0.mk (Kd.V_lower (Kd.V_mono (ok' := fun k_ => some k_ ≠ (.slice (some ad254) y251.length co13 : Value).ownBlock) ho0 (fun k_ hk_ => (Kd.fresh' (Kd.R_lt (by (with_reducible repeat (first | apply Kd.R_alloc | apply Kd.R_drewN | apply Kd.R_drew)); exact HO_24.out)) k_ hk_))) (below_size (by repeat (first | (with_reducible first | exact HB.out | apply below_alloc | apply pw_below_drewN | apply below_drew1) | exact HB.out)))); have n4_ := Aside0.mk (below_step (by repeat (first | (with_reducible first | exact HB.out | apply below_alloc | apply pw_below_drewN | apply below_drew1) | exact HB.out)) hb); clear HO_8; clear HO_10; clear HO_24; clear HB; have HO_8 := n0_; have HO_10 := n1_; have HO_24 := n2_; have HO269 := n3_; have HB := n4_; clear n0_ n1_ n2_ n3_ n4_; (try clear hb); (try clear hb2); (try clear hk); (try clear hi); (try clear ho0); obtain ⟨Ao46, co46, eo46⟩ := Kd.V_slice HO_10.out; subst eo46) | (go_at_call 15; (with_reducible refine (columbariumref10_Texts.calls k2 _ _ t255 _ _ t260 true _ ?side1 ?side2 ?side3 ?side4 A34.out).mono ?_); (case side1 => repeat (first | exact (Kd.V_reads' HO_8.out).2.2 | (with_reducible refine Kd.C_alloc ?_ _) | (with_reducible refine Kd.C_drewN ?_ _) | (with_reducible refine Kd.C_drew ?_))); (case side2 => exact (Kd.V_reads' HO_8.out).2.1); (case side3 => repeat (first | exact (Kd.V_reads' HO_10.out).2.2 | (with_reducible refine Kd.C_alloc ?_ _) | (with_reducible refine Kd.C_drewN ?_ _) | (with_reducible refine Kd.C_drew ?_))); (case side4 => exact (Kd.V_reads' HO_10.out).2.1); rintro e w' ⟨rfl, ⟨nd, rfl⟩⟩))
                              go_roundg k2
                              case measure => have := HK1.out; have := HK2.out; omega
                              case rel => exact ⟨(wrap64 (x26_1 + 1)), (by first | rfl | (simp; done) | (simp [*]; done)), H', ⟨by have := HK1.out; have := HK2.out; omega⟩, ⟨by (with_reducible repeat (first | apply Kd.R_alloc | apply Kd.R_drewN | apply Kd.R_drew)); exact HO_24.out⟩, ⟨by repeat (first | (with_reducible first | exact HB.out | apply below_alloc | apply pw_below_drewN | apply below_drew1) | exact HB.out)⟩⟩
                          · replace c35 := Bool.eq_false_iff.mpr c35
                            subst c35
                            have H1 : (none) = some r := by rw [if_neg (show ¬ (false = true) by decide)] at H; exact H
                            clear H
                            have H := H1
                            clear H1
                            exact absurd H (by simp)
                        · rw [if_neg c33] at H
                          exact absurd H (by simp)
                      · rw [if_neg c32] at H
                        exact absurd H (by simp)
              · rw [if_neg c16] at H
                exact absurd H (by simp)
            · rw [if_neg c15] at H
              exact absurd H (by simp)
          · rw [if_neg c14] at H
            have c14b0 : decide (x26_1 < (y251.length : Int)) = false := decide_eq_false c14
            clear c14
            obtain rfl := Option.some.inj H
            go_wp2
            go_ret
            exact ⟨by first | rfl | (simp [errW_none, errW_some] <;> rfl) | (simp only [← hji4]; first | rfl | (simp [errW_none, errW_some] <;> rfl)) | (simp [*, errW_none, errW_some] <;> rfl), by repeat (first | (with_reducible first | exact HB.out | apply below_alloc | apply pw_below_drewN | apply below_drew1) | exact HB.out)⟩
    · rw [if_neg c6] at H
      exact absurd H (by simp)
  · rw [if_neg c5] at H
    exact absurd H (by simp)

end Go.Proofs.Ytpmjnggkhjjiaaa.A
